import Derived.Test.YtbmdifeanocahaaDoorZ31
/- signetlaw9.RsaOneSum by its contract. (Printed by gen_rsaonesum.py.) -/
set_option linter.unusedVariables false
set_option linter.unusedSimpArgs false
namespace Go.Proofs.YtbmdifeanocahaaDoor
open Go.RowKit Go.Sg

set_option maxHeartbeats 16000000 in
set_option maxRecDepth 20000 in
theorem RsaOneSum_c (h : Int) (an ae am al as_ : Option Addr) (pn pe pm pl ps : Nat) (n e m l s : List Int) (w : World) (sn : Sl .u8 w an pn n) (se : Sl .u8 w ae pe e) (sm : Sl .u8 w am pm m) (sl : Sl .u8 w al pl l) (ss : Sl .u8 w as_ ps s) (un : U8 n) (ue : U8 e) (um : U8 m) (ul : U8 l) (us : U8 s) (hz : n.length + e.length + m.length + l.length + s.length ≤ 1048576) (ht : ShaTabs w) (hi : Infos w) :
    Calls Tryd.prog 6 #[.int .i64 h, .slice an n.length pn, .slice ae e.length pe, .slice am m.length pm, .slice al l.length pl, .slice as_ s.length ps] w (TruePost w) := by
  obtain ⟨zn, hzn⟩ : ∃ z, z = n.length := ⟨_, rfl⟩
  obtain ⟨ze, hze⟩ : ∃ z, z = e.length := ⟨_, rfl⟩
  obtain ⟨zm, hzm⟩ : ∃ z, z = m.length := ⟨_, rfl⟩
  obtain ⟨zl, hzl⟩ : ∃ z, z = l.length := ⟨_, rfl⟩
  obtain ⟨zs, hzs⟩ : ∃ z, z = s.length := ⟨_, rfl⟩
  rw [← hzn, ← hze, ← hzm, ← hzl, ← hzs] at hz ⊢
  obtain ⟨A, hA⟩ : ∃ C, C = vcode h n e m s := ⟨_, rfl⟩
  obtain ⟨B, hBq⟩ : ∃ C, C = vcode h n e l s := ⟨_, rfl⟩
  obtain ⟨X, hX⟩ : ∃ C, C = sha h m := ⟨_, rfl⟩
  obtain ⟨Y, hY⟩ : ∃ C, C = sha h l := ⟨_, rfl⟩
  obtain ⟨z, hzx⟩ : ∃ C, C = shaSize h := ⟨_, rfl⟩
  have uX : U8 X := by rw [hX]; exact sha_u8 _ _
  have uY : U8 Y := by rw [hY]; exact sha_u8 _ _
  have lX : Hid (X.length = z) := Lib.hid (by rw [hX, hzx, sha_len])
  have lY : Hid (Y.length = z) := Lib.hid (by rw [hY, hzx, sha_len])
  have both : A = 0 → B = 0 → X = Y := by rw [hA, hBq, hX, hY]; exact one_sum un
  have eqs : X = Y → A = B := by rw [hA, hBq, hX, hY]; exact vcode_sums
  have va : ∀ W, Below w.heap.size w W → Calls Tryd.prog 17 #[.int .i64 h, .slice an zn pn, .slice ae ze pe, .slice am zm pm, .slice as_ zs ps] W (VPost A W) := by
    intro W hB
    have := pVerify9_c h an ae am as_ pn pe pm ps n e m s W (sn.below hB) (se.below hB) (sm.below hB) (ss.below hB) un ue um us (by omega) (by omega) (by omega) (by omega) (ht.below hB) (hi.below hB)
    rwa [← hzn, ← hze, ← hzm, ← hzs, ← hA] at this
  have vb : ∀ W, Below w.heap.size w W → Calls Tryd.prog 17 #[.int .i64 h, .slice an zn pn, .slice ae ze pe, .slice al zl pl, .slice as_ zs ps] W (VPost B W) := by
    intro W hB
    have := pVerify9_c h an ae al as_ pn pe pl ps n e l s W (sn.below hB) (se.below hB) (sl.below hB) (ss.below hB) un ue ul us (by omega) (by omega) (by omega) (by omega) (ht.below hB) (hi.below hB)
    rwa [← hzn, ← hze, ← hzl, ← hzs, ← hBq] at this
  have sa : ∀ W, Below w.heap.size w W → Calls Tryd.prog 14 #[.int .i64 h, .slice (some ⟨W.heap.size, 0, none⟩) 1 1] (W.alloc (.cells #[.slice am zm pm] 23)) (BytesPost X W) := by
    intro W hB
    have := Sum1_c h am pm m W (sm.below hB) um (by omega) (ht.below hB)
    rwa [← hzm, ← hX] at this
  have sb : ∀ W, Below w.heap.size w W → Calls Tryd.prog 14 #[.int .i64 h, .slice (some ⟨W.heap.size, 0, none⟩) 1 1] (W.alloc (.cells #[.slice al zl pl] 23)) (BytesPost Y W) := by
    intro W hB
    have := Sum1_c h al pl l W (sl.below hB) ul (by omega) (ht.below hB)
    rwa [← hzl, ← hY] at this
  have sc : ∀ (aX aY : Option Addr) (cX cY : Nat) (W : World), Sl .u8 W aX cX X → Sl .u8 W aY cY Y → Calls Tryd.prog 15 #[.slice aX z cX, .slice aY z cY] W (TellPost (decide (X = Y)) W) := by
    intro aX aY cX cY W hx hy
    have := same9_c aX aY cX cY X Y W hx hy uX uY
    rwa [lX.out, lY.out] at this
  have aA : (A == A) = true := by simp
  have al_ := alive_c w ht hi
  have kn := fun W => known9_c h W
  have BOTH := Lib.hid both
  have EQS := Lib.hid eqs
  clear hzn hze hzm hzl hzs hA hBq hX hY hzx both eqs sn se sm sl ss ht hi
  go_enter Tryd.func6, Tryd.ntmps6
  have hB := Below.refl w.heap.size w
  go_wp2_with fail
  refine (al_).mono ?_; rintro e w1 ⟨rfl, hb⟩
  replace hB := hB.trans (hb.mono hB.size)
  clear hb
  clear al_
  go_wp2_with fail
  refine (va _ hB).mono ?_; rintro e w2 ⟨rfl, hb⟩
  replace hB := hB.trans (hb.mono hB.size)
  clear hb
  go_wp2_with fail
  refine (vb _ hB).mono ?_; rintro e w3 ⟨rfl, hb⟩
  replace hB := hB.trans (hb.mono hB.size)
  clear hb
  by_cases h0 : A = 0
  · have b0 : (A == 0) = true := by simp [h0]
    by_cases h1 : B = 0
    · have b1 : (B == 0) = true := by simp [h1]
      have hxy : decide (X = Y) = true := decide_eq_true (BOTH.out h0 h1)
      have nab : (A != B) = false := by rw [h0, h1]; simp
      clear h0 h1
      go_wp2_with fail
      refine (sa _ hB).mono ?_; rintro e w4 ⟨vX, rfl, nX, hb⟩
      replace hB := hB.trans (hb.mono hB.size)
      clear hb
      obtain ⟨aX, cX, rfl, sX⟩ := nX.sl
      rw [lX.out]
      clear nX
      go_wp2_with fail
      refine (sb _ hB).mono ?_; rintro e w5 ⟨vY, rfl, nY, hb⟩
      replace sX := sX.below hb
      replace hB := hB.trans (hb.mono hB.size)
      clear hb
      obtain ⟨aY, cY, rfl, sY⟩ := nY.sl
      rw [lY.out]
      clear nY
      go_wp2_with fail
      refine (sc _ _ _ _ _ sX sY).mono ?_; rintro e w6 ⟨rfl, hb⟩
      replace sX := sX.below hb
      replace sY := sY.below hb
      replace hB := hB.trans (hb.mono hB.size)
      clear hb
      clear sX sY
      rw [hxy]
      by_cases hh : IsHash h
      · have k1 : decide (IsHash h) = true := decide_eq_true hh
        clear hh
        rw [k1] at kn
        go_wp2_with fail
        refine (kn _).mono ?_; rintro e_ w' ⟨rfl, rfl⟩
        go_wp2_with fail
        refine (sa _ hB).mono ?_; rintro e w7 ⟨vX, rfl, nX, hb⟩
        replace hB := hB.trans (hb.mono hB.size)
        clear hb
        obtain ⟨aX, cX, rfl, sX⟩ := nX.sl
        rw [lX.out]
        clear nX
        go_wp2_with fail
        refine (sb _ hB).mono ?_; rintro e w8 ⟨vY, rfl, nY, hb⟩
        replace sX := sX.below hb
        replace hB := hB.trans (hb.mono hB.size)
        clear hb
        obtain ⟨aY, cY, rfl, sY⟩ := nY.sl
        rw [lY.out]
        clear nY
        go_wp2_with fail
        refine (sc _ _ _ _ _ sX sY).mono ?_; rintro e w9 ⟨rfl, hb⟩
        replace sX := sX.below hb
        replace sY := sY.below hb
        replace hB := hB.trans (hb.mono hB.size)
        clear hb
        clear sX sY
        rw [hxy]
        go_wp2_with fail
        refine (va _ hB).mono ?_; rintro e w10 ⟨rfl, hb⟩
        replace hB := hB.trans (hb.mono hB.size)
        clear hb
        go_wp2_with fail
        go_ret
        exact ⟨rfl, hB⟩
      · have k1 : decide (IsHash h) = false := decide_eq_false hh
        clear hh
        rw [k1] at kn
        go_wp2_with fail
        refine (kn _).mono ?_; rintro e_ w' ⟨rfl, rfl⟩
        go_wp2_with fail
        refine (va _ hB).mono ?_; rintro e w7 ⟨rfl, hb⟩
        replace hB := hB.trans (hb.mono hB.size)
        clear hb
        go_wp2_with fail
        go_ret
        exact ⟨rfl, hB⟩
    · have b1 : (B == 0) = false := by simp [h1]
      clear h0 h1
      by_cases hh : IsHash h
      · have k1 : decide (IsHash h) = true := decide_eq_true hh
        clear hh
        rw [k1] at kn
        go_wp2_with fail
        refine (kn _).mono ?_; rintro e_ w' ⟨rfl, rfl⟩
        by_cases hq : X = Y
        · have hxy : decide (X = Y) = true := decide_eq_true hq
          have nab : (A != B) = false := by rw [EQS.out hq]; simp
          clear hq
          go_wp2_with fail
          refine (sa _ hB).mono ?_; rintro e w4 ⟨vX, rfl, nX, hb⟩
          replace hB := hB.trans (hb.mono hB.size)
          clear hb
          obtain ⟨aX, cX, rfl, sX⟩ := nX.sl
          rw [lX.out]
          clear nX
          go_wp2_with fail
          refine (sb _ hB).mono ?_; rintro e w5 ⟨vY, rfl, nY, hb⟩
          replace sX := sX.below hb
          replace hB := hB.trans (hb.mono hB.size)
          clear hb
          obtain ⟨aY, cY, rfl, sY⟩ := nY.sl
          rw [lY.out]
          clear nY
          go_wp2_with fail
          refine (sc _ _ _ _ _ sX sY).mono ?_; rintro e w6 ⟨rfl, hb⟩
          replace sX := sX.below hb
          replace sY := sY.below hb
          replace hB := hB.trans (hb.mono hB.size)
          clear hb
          clear sX sY
          rw [hxy]
          go_wp2_with fail
          refine (va _ hB).mono ?_; rintro e w7 ⟨rfl, hb⟩
          replace hB := hB.trans (hb.mono hB.size)
          clear hb
          go_wp2_with fail
          go_ret
          exact ⟨rfl, hB⟩
        · have hxy : decide (X = Y) = false := decide_eq_false hq
          clear hq
          go_wp2_with fail
          refine (sa _ hB).mono ?_; rintro e w4 ⟨vX, rfl, nX, hb⟩
          replace hB := hB.trans (hb.mono hB.size)
          clear hb
          obtain ⟨aX, cX, rfl, sX⟩ := nX.sl
          rw [lX.out]
          clear nX
          go_wp2_with fail
          refine (sb _ hB).mono ?_; rintro e w5 ⟨vY, rfl, nY, hb⟩
          replace sX := sX.below hb
          replace hB := hB.trans (hb.mono hB.size)
          clear hb
          obtain ⟨aY, cY, rfl, sY⟩ := nY.sl
          rw [lY.out]
          clear nY
          go_wp2_with fail
          refine (sc _ _ _ _ _ sX sY).mono ?_; rintro e w6 ⟨rfl, hb⟩
          replace sX := sX.below hb
          replace sY := sY.below hb
          replace hB := hB.trans (hb.mono hB.size)
          clear hb
          clear sX sY
          rw [hxy]
          go_wp2_with fail
          refine (va _ hB).mono ?_; rintro e w7 ⟨rfl, hb⟩
          replace hB := hB.trans (hb.mono hB.size)
          clear hb
          go_wp2_with fail
          go_ret
          exact ⟨rfl, hB⟩
      · have k1 : decide (IsHash h) = false := decide_eq_false hh
        clear hh
        rw [k1] at kn
        go_wp2_with fail
        refine (kn _).mono ?_; rintro e_ w' ⟨rfl, rfl⟩
        go_wp2_with fail
        refine (va _ hB).mono ?_; rintro e w4 ⟨rfl, hb⟩
        replace hB := hB.trans (hb.mono hB.size)
        clear hb
        go_wp2_with fail
        go_ret
        exact ⟨rfl, hB⟩
  · have b0 : (A == 0) = false := by simp [h0]
    clear h0
    by_cases hh : IsHash h
    · have k1 : decide (IsHash h) = true := decide_eq_true hh
      clear hh
      rw [k1] at kn
      go_wp2_with fail
      refine (kn _).mono ?_; rintro e_ w' ⟨rfl, rfl⟩
      by_cases hq : X = Y
      · have hxy : decide (X = Y) = true := decide_eq_true hq
        have nab : (A != B) = false := by rw [EQS.out hq]; simp
        clear hq
        go_wp2_with fail
        refine (sa _ hB).mono ?_; rintro e w4 ⟨vX, rfl, nX, hb⟩
        replace hB := hB.trans (hb.mono hB.size)
        clear hb
        obtain ⟨aX, cX, rfl, sX⟩ := nX.sl
        rw [lX.out]
        clear nX
        go_wp2_with fail
        refine (sb _ hB).mono ?_; rintro e w5 ⟨vY, rfl, nY, hb⟩
        replace sX := sX.below hb
        replace hB := hB.trans (hb.mono hB.size)
        clear hb
        obtain ⟨aY, cY, rfl, sY⟩ := nY.sl
        rw [lY.out]
        clear nY
        go_wp2_with fail
        refine (sc _ _ _ _ _ sX sY).mono ?_; rintro e w6 ⟨rfl, hb⟩
        replace sX := sX.below hb
        replace sY := sY.below hb
        replace hB := hB.trans (hb.mono hB.size)
        clear hb
        clear sX sY
        rw [hxy]
        go_wp2_with fail
        refine (va _ hB).mono ?_; rintro e w7 ⟨rfl, hb⟩
        replace hB := hB.trans (hb.mono hB.size)
        clear hb
        go_wp2_with fail
        go_ret
        exact ⟨rfl, hB⟩
      · have hxy : decide (X = Y) = false := decide_eq_false hq
        clear hq
        go_wp2_with fail
        refine (sa _ hB).mono ?_; rintro e w4 ⟨vX, rfl, nX, hb⟩
        replace hB := hB.trans (hb.mono hB.size)
        clear hb
        obtain ⟨aX, cX, rfl, sX⟩ := nX.sl
        rw [lX.out]
        clear nX
        go_wp2_with fail
        refine (sb _ hB).mono ?_; rintro e w5 ⟨vY, rfl, nY, hb⟩
        replace sX := sX.below hb
        replace hB := hB.trans (hb.mono hB.size)
        clear hb
        obtain ⟨aY, cY, rfl, sY⟩ := nY.sl
        rw [lY.out]
        clear nY
        go_wp2_with fail
        refine (sc _ _ _ _ _ sX sY).mono ?_; rintro e w6 ⟨rfl, hb⟩
        replace sX := sX.below hb
        replace sY := sY.below hb
        replace hB := hB.trans (hb.mono hB.size)
        clear hb
        clear sX sY
        rw [hxy]
        go_wp2_with fail
        refine (va _ hB).mono ?_; rintro e w7 ⟨rfl, hb⟩
        replace hB := hB.trans (hb.mono hB.size)
        clear hb
        go_wp2_with fail
        go_ret
        exact ⟨rfl, hB⟩
    · have k1 : decide (IsHash h) = false := decide_eq_false hh
      clear hh
      rw [k1] at kn
      go_wp2_with fail
      refine (kn _).mono ?_; rintro e_ w' ⟨rfl, rfl⟩
      go_wp2_with fail
      refine (va _ hB).mono ?_; rintro e w4 ⟨rfl, hb⟩
      replace hB := hB.trans (hb.mono hB.size)
      clear hb
      go_wp2_with fail
      go_ret
      exact ⟨rfl, hB⟩
end Go.Proofs.YtbmdifeanocahaaDoor
