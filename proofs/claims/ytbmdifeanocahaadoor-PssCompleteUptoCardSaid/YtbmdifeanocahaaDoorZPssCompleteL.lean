import Derived.Test.YtbmdifeanocahaaDoorZ33
import Derived.Test.YtbmdifeanocahaaDoorZ35
/- signetlaw10.PssComplete by its contract. (Printed by gen_psscomplete.py.) -/
set_option linter.unusedVariables false
set_option linter.unusedSimpArgs false
namespace Go.Proofs.YtbmdifeanocahaaDoor
open Go.RowKit Go.Sg

theorem cell3p (W : World) : Sl .u8 (W.alloc (.cells #[.int .u8 3] 5)) (some ⟨W.heap.size, 0, none⟩) 1 [3] := (cells_new .u8 W 5 [3] #[.int .u8 3] rfl _ rfl).sl_full (by simp)
theorem u3p : U8 [3] := .one (by omega) (by omega)
theorem bval3p : bval [3] = 3 := by decide
theorem blen_limp {n k : Nat} (h : Lim k n) : blen n ≤ 4 * k := by
  have h1 := (bl_le_iff n (32 * k)).2 (by rw [← Rpow_two]; exact h.lt)
  unfold blen
  omega
theorem cube_lawp {x M N : Nat} (h : M ≤ x * x * x) (hN : N = x * x * x - M) (hlt : M < N) : x ^ 3 % N = M := by
  have e : x ^ 3 = x * x * x := by rw [Nat.pow_succ, Nat.pow_succ, Nat.pow_one]
  have e2 : x * x * x = M + N := by omega
  rw [e, e2, Nat.add_mod_right, Nat.mod_eq_of_lt hlt]

theorem ecode_zero {h : Int} {d s : List Int} {n : Int} (c : ecode h d s n = 0) : IsHash h ∧ (0 ≤ n ∧ n ≤ 65536) ∧ encFits h d s n.toNat ∧ eres h d s n = encOf h d s n.toNat := by
  unfold ecode at c
  by_cases h1 : IsHash h
  · rw [if_pos h1] at c
    by_cases h2 : 0 ≤ n ∧ n ≤ 65536
    · rw [if_pos h2] at c
      by_cases h3 : encFits h d s n.toNat
      · exact ⟨h1, h2, h3, by unfold eres; rw [if_pos ⟨h1, h2, h3⟩]⟩
      · rw [if_neg h3] at c; simp at c
    · rw [if_neg h2] at c; simp at c
  · rw [if_neg h1] at c; simp at c
theorem blen_bytes {s : List Int} (u : U8 s) : blen (bval s) ≤ s.length := by
  have := bl8 u
  unfold blen
  omega
/-- The stage's theorem in plain words. -/
theorem pss_takes {h : Int} {d m t EM SG B : List Int} {b x M N U : Nat} (hd : d = sha h m) (hh : IsHash h) (hb : b ≤ 65536) (hf : encFits h d t b) (ht : t.length = shaSize h) (ut : U8 t) (hE : EM = encOf h d t b) (hM : M = bval EM)
    (hU : U = x * x * x) (hMU : M ≤ U) (hN : N = U - M) (hMN : M < N) (hxN : x < N) (hbits : bl N = b + 1) (vB : bval B = N) (lB : SG.length = B.length) (vS : bval SG = x) : yHolds h B [3] m SG := by
  have uE : U8 EM := by rw [hE]; exact encOf_u8 ut
  have lE : EM.length = encLen b := by rw [hE]; exact encOf_len hf
  have ey : yNum B [3] SG = M := by
    unfold yNum
    rw [vS, bval3p, vB]
    exact cube_lawp (by rw [← hU]; exact hMU) (by rw [← hU]; exact hN) hMN
  have eb : yBits B = b := by unfold yBits; rw [vB]; omega
  have e1 : beN M (encLen b) = EM := by rw [hM]; exact beN_bval _ _ lE uE
  have bb := blen_bytes uE
  rw [lE, ← hM] at bb
  refine ⟨lB, by rw [vS, vB]; exact hxN, ?_, ?_⟩
  · rw [ey, eb]
    refine decide_eq_true ⟨by omega, ?_, by omega⟩
    unfold encLen
    omega
  · rw [ey, eb, e1, hE, ← hd]
    exact holds_enc hh d t b hb hf ht ut

set_option maxHeartbeats 16000000 in
set_option maxRecDepth 20000 in
theorem PssComplete_c (h : Int) (as_ am at_ : Option Addr) (ps pm pt : Nat) (s m t : List Int) (bits' : Int) (w : World) (ss : Sl .u8 w as_ ps s) (sm : Sl .u8 w am pm m) (st : Sl .u8 w at_ pt t) (us : U8 s) (um : U8 m) (ut : U8 t) (hbr : -9223372036854775808 ≤ bits' ∧ bits' ≤ 9223372036854775807) (hz : s.length + m.length + t.length ≤ 1048576) (ht : ShaTabs w) :
    Calls Tryd.prog 10 #[.int .i64 h, .slice as_ s.length ps, .slice am m.length pm, .slice at_ t.length pt, .int .i64 bits'] w (TruePost w) := by
  obtain ⟨zs, hzs⟩ : ∃ z, z = s.length := ⟨_, rfl⟩
  obtain ⟨zm, hzm⟩ : ∃ z, z = m.length := ⟨_, rfl⟩
  obtain ⟨zt, hzt⟩ : ∃ z, z = t.length := ⟨_, rfl⟩
  rw [← hzs, ← hzm, ← hzt] at hz ⊢
  have lz : Hid (zs + zm + zt ≤ 1048576) := Lib.hid hz
  obtain ⟨z, hz0⟩ : ∃ z, z = shaSize h := ⟨_, rfl⟩
  have z64 : z ≤ 64 := by rw [hz0]; exact shaSize_le h
  obtain ⟨X, hX⟩ : ∃ X, X = sha h m := ⟨_, rfl⟩
  have uX : U8 X := by rw [hX]; exact sha_u8 _ _
  have lX : Hid (X.length = z) := Lib.hid (by rw [hX, hz0, sha_len])
  have sa : ∀ W, Below w.heap.size w W → Calls Tryd.prog 14 #[.int .i64 h, .slice (some ⟨W.heap.size, 0, none⟩) 1 1] (W.alloc (.cells #[.slice am zm pm] 23)) (BytesPost X W) := by
    intro W hB
    have := Sum1_c h am pm m W (sm.below hB) um (by omega) (ht.below hB)
    rwa [← hzm, ← hX] at this
  obtain ⟨C, hC⟩ : ∃ C, C = ecode h X t bits' := ⟨_, rfl⟩
  obtain ⟨EM, hEM⟩ : ∃ C, C = eres h X t bits' := ⟨_, rfl⟩
  have uEM : U8 EM := by rw [hEM]; exact eres_u8 ut
  obtain ⟨zE, hzE⟩ : ∃ q, q = EM.length := ⟨_, rfl⟩
  have en : ∀ W aX cX, Below w.heap.size w W → Sl .u8 W aX cX X → Calls Tryd.prog 38 #[.int .i64 h, .slice aX z cX, .slice at_ zt pt, .int .i64 bits'] W (fun e w' => ∃ v, e = .returned (.tuple #[v, .int .i64 C]) ∧ New W.heap.size .u8 5 w' v EM ∧ Below W.heap.size W w') := by
    intro W aX cX hB hx
    have := pEncode_c h bits' aX at_ cX pt X t W hx (st.below hB) uX ut (by rw [lX.out]; omega) (ht.below hB)
    unfold EncPost at this
    rwa [lX.out, ← hzt, ← hC, ← hEM] at this
  have vv : ∀ (V : Int) (B G : List Int) (uB : U8 B) (uG : U8 G) (zB : Nat) (lB : B.length = zB) (lG : G.length = zB) (zb : zB ≤ 1048576) (hV : V = ycode h B [3] m G) W aG cG aB cB, Below w.heap.size w W → Sl .u8 W aB cB B → Sl .u8 W aG cG G → Calls Tryd.prog 31 #[.int .i64 h, .slice aB zB cB, .slice (some ⟨W.heap.size, 0, none⟩) 1 1, .slice am zm pm, .slice aG zB cG] (W.alloc (.cells #[.int .u8 3] 5)) (VPost V W) := by
    intro V B G uB uG zB lB lG zb hV W aG cG aB cB k sB sG
    have al := (Below.refl W.heap.size W).alloc (Nat.le_refl _) (.cells #[.int .u8 3] 5)
    have := pVerify10_c h _ _ _ _ _ _ _ _ B [3] m G _ (sB.below al) (cell3p W) ((sm.below k).below al) (sG.below al) uB u3p um uG (by rw [lB]; omega) (by simp) (by omega) (by rw [lG]; omega) ((ht.below k).below al)
    rw [lB, lG, ← hzm, ← hV] at this
    exact this.mono fun e w' p => ⟨p.1, al.trans (p.2.mono al.size)⟩
  have vk : ∀ (B : List Int) (uB : U8 B) (zB : Nat) (lB : B.length = zB) (zb : zB ≤ 1048576) W aB cB, Sl .u8 W aB cB B → Calls Tryd.prog 21 #[.slice aB zB cB, .slice (some ⟨W.heap.size, 0, none⟩) 1 1] (W.alloc (.cells #[.int .u8 3] 5)) (KeyPost B [3] W) := by
    intro B uB zB lB zb W aB cB sB
    have al := (Below.refl W.heap.size W).alloc (Nat.le_refl _) (.cells #[.int .u8 3] 5)
    have := Key_c _ _ _ _ B [3] _ (sB.below al) (cell3p W) uB u3p (by rw [lB]; omega) (by simp)
    rw [lB] at this
    exact this.mono fun e w' p => ⟨p.1, al.trans (p.2.mono al.size)⟩
  have al_ := awake_c w ht
  have sz := fun W => Size_c h W
  rw [← hz0] at sz
  have HC := Lib.hid hC
  have HEM := Lib.hid hEM
  have HZE := Lib.hid hzE
  have HX := Lib.hid hX
  have HZ := Lib.hid hz0
  have HT := Lib.hid hzt
  have HS := Lib.hid hzs
  have ss0 := ss
  clear hC hEM hzE hX hz0 hzm hzs hzt ss sm st ht
  go_enter Tryd.func10, Tryd.ntmps10
  have hB := Below.refl w.heap.size w
  go_wp2_with fail
  refine (al_).mono ?_; rintro e w1 ⟨rfl, hb⟩
  replace hB := hB.trans (hb.mono hB.size)
  clear hb
  clear al_
  by_cases h1 : zt = z
  · subst h1
    have g1 : ((zt : Int) != (zt : Int)) = false := by simp
    by_cases h2 : 600 < zs
    · have d2 : decide ((600 : Int) < (zs : Int)) = true := decide_eq_true (by omega)
      have d2n : decide (600 < zs) = true := decide_eq_true h2
      go_wp2_with fail
      refine (sz _).mono ?_; rintro e_ w' ⟨rfl, rfl⟩
      clear sz
      go_wp2_with fail
      go_ret
      exact ⟨rfl, hB⟩
    · have d2 : decide ((600 : Int) < (zs : Int)) = false := decide_eq_false (by omega)
      have d2n : decide (600 < zs) = false := decide_eq_false h2
      go_wp2_with fail
      refine (sz _).mono ?_; rintro e_ w' ⟨rfl, rfl⟩
      clear sz
      go_wp2_with fail
      refine (sa _ hB).mono ?_; rintro e w2 ⟨vX, rfl, nX, hb⟩
      replace hB := hB.trans (hb.mono hB.size)
      clear hb
      obtain ⟨aX, cX, rfl, sX⟩ := nX.sl
      rw [lX.out]
      clear nX sa
      go_wp2_with fail
      refine (en _ _ _ hB sX).mono ?_; rintro e w3 ⟨vE, rfl, nE, hb⟩
      replace sX := sX.below hb
      replace hB := hB.trans (hb.mono hB.size)
      clear hb
      obtain ⟨aE, cE, rfl, sE⟩ := nE.sl
      rw [← HZE.out]
      clear nE en
      clear sX
      by_cases hc : C = 0
      · subst hc
        obtain ⟨hh, ⟨b0, b1⟩, hf, hres⟩ := ecode_zero HC.out.symm
        obtain ⟨b, rfl⟩ : ∃ b : Nat, bits' = (b : Int) := ⟨bits'.toNat, by omega⟩
        have bB : b ≤ 65536 := by omega
        rw [Int.toNat_natCast] at hf hres
        have EE : Hid (EM = encOf h X t b) := Lib.hid (by rw [HEM.out]; exact hres)
        have HF := Lib.hid hf
        have HH := Lib.hid hh
        have zEb : zE ≤ 8193 := by rw [HZE.out, EE.out, encOf_len hf]; unfold encLen; omega
        clear hh hf hres b0 b1
        obtain ⟨x, hx⟩ : ∃ x, x = bval s := ⟨_, rfl⟩
        have fS := fun W (k : Below w.heap.size w W) => frombytes_can (ss0.below k) us (by rw [← HS.out]; omega)
        rw [← hx, ← HS.out] at fS
        have lx : Hid (Lim 150 x) := Lib.hid (by rw [hx]; exact bytes_lim us (by rw [← HS.out]; omega))
        obtain ⟨M, hM⟩ : ∃ M, M = bval EM := ⟨_, rfl⟩
        have fE := fun W a c (k : Sl .u8 W a c EM) => frombytes_can k uEM (by rw [← HZE.out]; omega)
        rw [← HZE.out, ← hM] at fE
        have HMM := Lib.hid hM
        clear hx hM
        go_wp2_with fail
        refine (fS _ hB).mono ?_; rintro e w4 ⟨vX, rfl, cX, hb⟩
        replace sE := sE.below hb
        replace hB := hB.trans (hb.mono hB.size)
        clear hb
        clear fS
        go_wp2_with fail
        refine (mul_can cX.num cX.num lx.out lx.out (by omega)).mono ?_; rintro e w5 ⟨vQ, rfl, cQ, hb⟩
        replace sE := sE.below hb
        replace cX := cX.below hb
        replace hB := hB.trans (hb.mono hB.size)
        clear hb
        go_wp2_with fail
        refine (mul_can cQ.num cX.num (lx.out.mul lx.out) lx.out (by omega)).mono ?_; rintro e w6 ⟨vU, rfl, cU, hb⟩
        replace sE := sE.below hb
        replace cX := cX.below hb
        replace cQ := cQ.below hb
        replace hB := hB.trans (hb.mono hB.size)
        clear hb
        clear cQ
        go_wp2_with fail
        refine (fE _ _ _ sE).mono ?_; rintro e w7 ⟨vM, rfl, cM, hb⟩
        replace sE := sE.below hb
        replace cX := cX.below hb
        replace cU := cU.below hb
        replace hB := hB.trans (hb.mono hB.size)
        clear hb
        have lu : Hid (Lim 450 (x * x * x)) := Lib.hid ((lx.out.mul lx.out).mul lx.out)
        obtain ⟨U, hU⟩ : ∃ U, U = x * x * x := ⟨_, rfl⟩
        rw [← hU] at cU lu
        have HU := Lib.hid hU
        clear hU
        have sb := sub_v cU.num cM.num
        by_cases hMU : M ≤ U
        · go_wp2_with fail
          refine sb.mono ?_; rintro e_ w8 ⟨p1, _, hb⟩
          obtain ⟨vN, rfl, nN⟩ := p1 hMU
          have cN := nN.can (lu.out.le (Nat.sub_le _ _)) (by omega)
          obtain ⟨N, hN⟩ : ∃ N, N = U - M := ⟨_, rfl⟩
          rw [← hN] at cN
          clear p1 nN sb
          replace sE := sE.below hb
          replace cX := cX.below hb
          replace cU := cU.below hb
          replace cM := cM.below hb
          replace hB := hB.trans (hb.mono hB.size)
          clear hb
          clear cU cM
          have HMU := Lib.hid hMU
          have HN := Lib.hid hN
          clear hMU hN
          obtain ⟨nb, hnb⟩ : ∃ b, b = bl N := ⟨_, rfl⟩
          have bt := bits_v cN.num
          rw [← hnb] at bt
          have HNB := Lib.hid hnb
          clear hnb
          have gb1 : (b : Int) + 1 = ((b + 1 : Nat) : Int) := by omega
          obtain ⟨b1, hb1⟩ : ∃ q, q = b + 1 := ⟨_, rfl⟩
          rw [← hb1] at gb1
          have HB1 := Lib.hid hb1
          clear hb1
          by_cases h4 : nb = b1
          · subst h4
            have g4 : ((nb : Int) != (nb : Int)) = false := by simp
            go_wp2_with fail
            refine bt.mono ?_; rintro e_ w' ⟨rfl, rfl⟩
            clear bt
            by_cases hXN : x < N
            · have HXN := Lib.hid hXN
              have cc := cmp_v cX.num cN.num
              rw [cmpI_lt hXN] at cc
              clear hXN
              go_wp2_with fail
              refine (cc).mono ?_; rintro e w9 ⟨rfl, hd⟩
              have hb := hd.b
              clear hd
              replace sE := sE.below hb
              replace cX := cX.below hb
              replace cN := cN.below hb
              replace hB := hB.trans (hb.mono hB.size)
              clear hb
              clear cc
              go_wp2_with fail
              refine (fE _ _ _ sE).mono ?_; rintro e w10 ⟨vM2, rfl, cM, hb⟩
              replace sE := sE.below hb
              replace cX := cX.below hb
              replace cN := cN.below hb
              replace hB := hB.trans (hb.mono hB.size)
              clear hb
              clear fE
              clear sE
              by_cases hMN : M < N
              · have HMN := Lib.hid hMN
                have cc := cmp_v cM.num cN.num
                rw [cmpI_lt hMN] at cc
                clear hMN
                go_wp2_with fail
                refine (cc).mono ?_; rintro e w11 ⟨rfl, hd⟩
                have hb := hd.b
                clear hd
                replace cX := cX.below hb
                replace cN := cN.below hb
                replace cM := cM.below hb
                replace hB := hB.trans (hb.mono hB.size)
                clear hb
                clear cc
                clear cM
                have by_ : ∀ W, CanAt W vN N → Calls Tryd.prog 28 #[vN] W (NBytesPost (beN N (blen N)) W) := by
                  intro W k
                  obtain ⟨a', c', zs', e', s', u', hv', hl'⟩ := k.num
                  rw [← hv', e']
                  exact Bytes_c _ _ _ _ s' u' (by omega)
                obtain ⟨B, hBy⟩ : ∃ B, B = beN N (blen N) := ⟨_, rfl⟩
                have uB : U8 B := by rw [hBy]; exact beN_u8 _ _
                have vB : Hid (bval B = N) := Lib.hid (by rw [hBy]; exact bval_bytes N)
                obtain ⟨zB, hzB⟩ : ∃ z, z = blen N := ⟨_, rfl⟩
                have zBb : zB ≤ 1800 := by rw [hzB]; exact blen_limp (lu.out.le (show N ≤ U by rw [HN.out]; exact Nat.sub_le _ _))
                have lB : Hid (B.length = zB) := Lib.hid (by rw [hBy, hzB, beN_len])
                rw [← hBy] at by_
                have HZB := Lib.hid hzB
                have vk1 := fun W a c (k : Sl .u8 W a c B) => vk B uB zB lB.out (by omega) W a c k
                clear hBy hzB vk
                go_wp2_with fail
                refine (by_ _ cN).mono ?_; rintro e w12 ⟨vB1, rfl, nB, hb⟩
                replace cX := cX.below hb
                replace cN := cN.below hb
                replace hB := hB.trans (hb.mono hB.size)
                clear hb
                obtain ⟨aB, cB, rfl, sB⟩ := nB.sl
                rw [lB.out]
                clear nB
                by_cases hk : keyOk B [3]
                · have HK := Lib.hid hk
                  unfold KeyPost at vk1
                  rw [keyCode_ok hk] at vk1
                  clear hk
                  go_wp2_with fail
                  refine (vk1 _ _ _ sB).mono ?_; rintro e w13 ⟨rfl, hb⟩
                  replace cX := cX.below hb
                  replace cN := cN.below hb
                  replace sB := sB.below hb
                  replace hB := hB.trans (hb.mono hB.size)
                  clear hb
                  clear vk1
                  clear sB
                  obtain ⟨G, hG⟩ : ∃ G, G = beN x zB := ⟨_, rfl⟩
                  have ft : fitB x (zB : Int) = true := by
                    refine decide_eq_true ⟨by omega, by omega, ?_⟩
                    rw [HZB.out]
                    have h1 := (bl_le_iff x (bl N)).2 (Nat.lt_trans HXN.out (lt_bl N))
                    unfold blen
                    omega
                  have fx := fun W (k : CanAt W vX x) => fixed_v k.num zB (by omega)
                  unfold FixedPost fixL at fx
                  rw [ft, if_pos rfl, Int.toNat_natCast, ← hG] at fx
                  have uG : U8 G := by rw [hG]; exact beN_u8 _ _
                  have lG : Hid (G.length = zB) := Lib.hid (by rw [hG, beN_len])
                  have vG : bval G = x := by
                    rw [hG]
                    refine bval_beN _ _ ?_
                    rw [HZB.out]
                    exact Nat.lt_trans HXN.out (lt_blen N)
                  have code0 : (0 : Int) = ycode h B [3] m G := (yHolds_yes (pss_takes HX.out HH.out bB HF.out (by rw [← HT.out, HZ.out]) ut EE.out HMM.out HU.out HMU.out HN.out HMN.out HXN.out (by rw [← HNB.out, HB1.out]) vB.out (by rw [lG.out, lB.out]) vG) HH.out HK.out).symm
                  have vv1 := fun W aG cG aB cB => vv 0 B G uB uG zB lB.out lG.out (by omega) code0 W aG cG aB cB
                  clear hG ft vG code0 vv
                  go_wp2_with fail
                  refine (by_ _ cN).mono ?_; rintro e w14 ⟨vB2, rfl, nB, hb⟩
                  replace cX := cX.below hb
                  replace cN := cN.below hb
                  replace hB := hB.trans (hb.mono hB.size)
                  clear hb
                  obtain ⟨aB2, cB2, rfl, sB⟩ := nB.sl
                  rw [lB.out]
                  clear nB sB
                  go_wp2_with fail
                  refine (fx _ cX).mono ?_; rintro e w15 ⟨vG, rfl, nG, hb⟩
                  replace cX := cX.below hb
                  replace cN := cN.below hb
                  replace hB := hB.trans (hb.mono hB.size)
                  clear hb
                  obtain ⟨aG, cG, rfl, sG⟩ := nG.sl
                  rw [lG.out]
                  clear nG fx
                  go_wp2_with fail
                  refine (by_ _ cN).mono ?_; rintro e w16 ⟨vB3, rfl, nB, hb⟩
                  replace cX := cX.below hb
                  replace cN := cN.below hb
                  replace sG := sG.below hb
                  replace hB := hB.trans (hb.mono hB.size)
                  clear hb
                  obtain ⟨aB3, cB3, rfl, sB⟩ := nB.sl
                  rw [lB.out]
                  clear nB by_
                  go_wp2_with fail
                  refine (vv1 _ _ _ _ _ hB sB sG).mono ?_; rintro e w17 ⟨rfl, hb⟩
                  replace cX := cX.below hb
                  replace cN := cN.below hb
                  replace sG := sG.below hb
                  replace sB := sB.below hb
                  replace hB := hB.trans (hb.mono hB.size)
                  clear hb
                  clear vv1
                  go_wp2_with fail
                  go_ret
                  exact ⟨rfl, hB⟩
                · unfold KeyPost at vk1
                  rw [keyCode_no hk] at vk1
                  clear hk by_ vv
                  go_wp2_with fail
                  refine (vk1 _ _ _ sB).mono ?_; rintro e w13 ⟨rfl, hb⟩
                  replace cX := cX.below hb
                  replace cN := cN.below hb
                  replace sB := sB.below hb
                  replace hB := hB.trans (hb.mono hB.size)
                  clear hb
                  clear vk1
                  go_wp2_with fail
                  go_ret
                  exact ⟨rfl, hB⟩
              · have hci := cmpI_ge hMN
                obtain ⟨ci, hcc⟩ : ∃ ci, ci = cmpI M N := ⟨_, rfl⟩
                have cc := cmp_v cM.num cN.num
                rw [← hcc] at hci cc
                have dci : decide ((0 : Int) ≤ ci) = true := decide_eq_true hci
                clear hcc hMN hci
                go_wp2_with fail
                refine cc.mono ?_; rintro e_ w60 ⟨rfl, hd⟩
                replace hB := hB.trans (hd.b.mono hB.size)
                clear hd cc
                go_wp2_with fail
                go_ret
                exact ⟨rfl, hB⟩
            · have hci := cmpI_ge hXN
              obtain ⟨ci, hcc⟩ : ∃ ci, ci = cmpI x N := ⟨_, rfl⟩
              have cc := cmp_v cX.num cN.num
              rw [← hcc] at hci cc
              have dci : decide ((0 : Int) ≤ ci) = true := decide_eq_true hci
              clear hcc hXN hci
              go_wp2_with fail
              refine cc.mono ?_; rintro e_ w61 ⟨rfl, hd⟩
              replace hB := hB.trans (hd.b.mono hB.size)
              clear hd cc
              go_wp2_with fail
              go_ret
              exact ⟨rfl, hB⟩
          · have g4 : ((nb : Int) != (b1 : Int)) = true := by simp; omega
            clear h4
            go_wp2_with fail
            refine bt.mono ?_; rintro e_ w' ⟨rfl, rfl⟩
            clear bt
            go_wp2_with fail
            go_ret
            exact ⟨rfl, hB⟩
        · go_wp2_with fail
          refine sb.mono ?_; rintro e_ w8 ⟨_, p2, hb⟩
          have p3 := p2 (by omega)
          subst p3
          replace hB := hB.trans (hb.mono hB.size)
          clear hb p2 sb
          go_wp2_with fail
          go_ret
          exact ⟨rfl, hB⟩
      · have gc : (C != 0) = true := by simp [hc]
        clear hc
        go_wp2_with fail
        go_ret
        exact ⟨rfl, hB⟩
  · have g1 : ((zt : Int) != (z : Int)) = true := by simp; omega
    clear h1
    go_wp2_with fail
    refine (sz _).mono ?_; rintro e_ w' ⟨rfl, rfl⟩
    clear sz
    go_wp2_with fail
    go_ret
    exact ⟨rfl, hB⟩
end Go.Proofs.YtbmdifeanocahaaDoor
