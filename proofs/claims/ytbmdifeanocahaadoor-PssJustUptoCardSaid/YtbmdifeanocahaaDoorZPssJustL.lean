import Derived.Test.YtbmdifeanocahaaDoorZ33
import Derived.Test.YtbmdifeanocahaaDoorZ35
import Derived.Test.YtbmdifeanocahaaDoorZ34
/- signetlaw10.PssJust by its contract. (Printed by gen_pssjust.py.) -/
set_option linter.unusedVariables false
set_option linter.unusedSimpArgs false
namespace Go.Proofs.YtbmdifeanocahaaDoor
open Go.RowKit Go.Sg

set_option maxHeartbeats 16000000 in
set_option maxRecDepth 20000 in
theorem PssJust_c (h : Int) (an ae am as_ : Option Addr) (pn pe pm ps : Nat) (n e m s : List Int) (w : World) (sn : Sl .u8 w an pn n) (se : Sl .u8 w ae pe e) (sm : Sl .u8 w am pm m) (ss : Sl .u8 w as_ ps s) (un : U8 n) (ue : U8 e) (um : U8 m) (us : U8 s) (hz : n.length + e.length + m.length + s.length ≤ 1048576) (ht : ShaTabs w) :
    Calls Tryd.prog 9 #[.int .i64 h, .slice an n.length pn, .slice ae e.length pe, .slice am m.length pm, .slice as_ s.length ps] w (TruePost w) := by
  obtain ⟨zn, hzn⟩ : ∃ z, z = n.length := ⟨_, rfl⟩
  obtain ⟨ze, hze⟩ : ∃ z, z = e.length := ⟨_, rfl⟩
  obtain ⟨zm, hzm⟩ : ∃ z, z = m.length := ⟨_, rfl⟩
  obtain ⟨zs, hzs⟩ : ∃ z, z = s.length := ⟨_, rfl⟩
  rw [← hzn, ← hze, ← hzm, ← hzs] at hz ⊢
  obtain ⟨V, hV⟩ : ∃ C, C = ycode h n e m s := ⟨_, rfl⟩
  obtain ⟨z, hz0⟩ : ∃ z, z = shaSize h := ⟨_, rfl⟩
  have va : ∀ W, Below w.heap.size w W → Calls Tryd.prog 31 #[.int .i64 h, .slice an zn pn, .slice ae ze pe, .slice am zm pm, .slice as_ zs ps] W (VPost V W) := by
    intro W hB
    have := pVerify10_c h an ae am as_ pn pe pm ps n e m s W (sn.below hB) (se.below hB) (sm.below hB) (ss.below hB) un ue um us (by omega) (by omega) (by omega) (by omega) (ht.below hB)
    rwa [← hzn, ← hze, ← hzm, ← hzs, ← hV] at this
  have vk : ∀ W, Below w.heap.size w W → Calls Tryd.prog 21 #[.slice an zn pn, .slice ae ze pe] W (KeyPost n e W) := by
    intro W hB
    have := Key_c an ae pn pe n e W (sn.below hB) (se.below hB) un ue (by omega) (by omega)
    rwa [← hzn, ← hze] at this
  have al_ := awake_c w ht
  have sz := fun W => Size_c h W
  rw [← hz0] at sz
  have HV := Lib.hid hV
  have HN := Lib.hid hzn
  have HS := Lib.hid hzs
  have HE := Lib.hid hze
  have HM := Lib.hid hzm
  have HZ := Lib.hid hz0
  have lz : Hid (zn + ze + zm + zs ≤ 1048576) := Lib.hid hz
  clear hV hzn hzs hze hzm hz0
  go_enter Tryd.func9, Tryd.ntmps9
  have hB := Below.refl w.heap.size w
  go_wp2_with fail
  refine (al_).mono ?_; rintro e w1 ⟨rfl, hb⟩
  replace hB := hB.trans (hb.mono hB.size)
  clear hb
  clear al_
  go_wp2_with fail
  refine (va _ hB).mono ?_; rintro e w2 ⟨rfl, hb⟩
  replace hB := hB.trans (hb.mono hB.size)
  clear hb
  clear va
  by_cases hh : IsHash h
  · have HH := Lib.hid hh
    have e0 : ((z : Int) == 0) = false := beq_false_of_ne (by have := hh.size_le.2.1; have := HZ.out; omega)
    clear hh
    go_wp2_with fail
    refine (sz _).mono ?_; rintro e_ w' ⟨rfl, rfl⟩
    clear sz
    go_wp2_with fail
    refine (vk _ hB).mono ?_; rintro e w3 ⟨rfl, hb⟩
    replace hB := hB.trans (hb.mono hB.size)
    clear hb
    by_cases hk : keyOk n e
    · rw [keyCode_ok hk]
      have HK := Lib.hid hk
      clear hk
      obtain ⟨nn, hnn⟩ : ∃ x, x = bval n := ⟨_, rfl⟩
      obtain ⟨xx, hxx⟩ : ∃ x, x = bval s := ⟨_, rfl⟩
      obtain ⟨ee, hee⟩ : ∃ x, x = bval e := ⟨_, rfl⟩
      have fN := fun W (h : Below w.heap.size w W) => frombytes_can (sn.below h) un (by have := HN.out; omega)
      have fS := fun W (h : Below w.heap.size w W) => frombytes_can (ss.below h) us (by have := HS.out; omega)
      have fE := fun W (h : Below w.heap.size w W) => frombytes_can (se.below h) ue (by have := HE.out; omega)
      rw [← hnn, ← HN.out] at fN
      rw [← hxx, ← HS.out] at fS
      rw [← hee, ← HE.out] at fE
      have HNN := Lib.hid hnn
      have HXX := Lib.hid hxx
      have HEE := Lib.hid hee
      clear hnn hxx hee
      go_wp2_with fail
      refine (fN _ hB).mono ?_; rintro e w4 ⟨vN, rfl, cN, hb⟩
      replace hB := hB.trans (hb.mono hB.size)
      clear hb
      clear fN
      go_wp2_with fail
      refine (fS _ hB).mono ?_; rintro e w5 ⟨vS, rfl, cS, hb⟩
      replace cN := cN.below hb
      replace hB := hB.trans (hb.mono hB.size)
      clear hb
      clear fS
      by_cases hl : zs = zn
      · subst hl
        have LL : Hid (s.length = n.length) := Lib.hid (by rw [← HS.out, ← HN.out])
        have g0 : ((zs : Int) != (zs : Int)) = false := by simp
        by_cases hlt : xx < nn
        · have HLT := Lib.hid hlt
          have cc := cmp_v cS.num cN.num
          rw [cmpI_lt hlt] at cc
          clear hlt
          go_wp2_with fail
          refine (cc).mono ?_; rintro e w6 ⟨rfl, hd⟩
          have hb := hd.b
          clear hd
          replace cN := cN.below hb
          replace cS := cS.below hb
          replace hB := hB.trans (hb.mono hB.size)
          clear hb
          clear cc
          go_wp2_with fail
          refine (fE _ hB).mono ?_; rintro e w7 ⟨vE, rfl, cE, hb⟩
          replace cN := cN.below hb
          replace cS := cS.below hb
          replace hB := hB.trans (hb.mono hB.size)
          clear hb
          clear fE
          have ok : Hid (Ok3 xx ee nn) := Lib.hid (by rw [HXX.out, HEE.out, HNN.out]; exact ok3_10 HK.out un us LL.out)
          obtain ⟨pp, hpp⟩ : ∃ x, x = xx ^ ee % nn := ⟨_, rfl⟩
          have ex := mExp_ok cS.num cE.num cN.num ok.out
          rw [← hpp] at ex
          have ePP : pp = yNum n e s := by rw [hpp, HXX.out, HEE.out, HNN.out]; rfl
          obtain ⟨b, hb_⟩ : ∃ b, b = yBits n := ⟨_, rfl⟩
          obtain ⟨nb, hnb⟩ : ∃ b, b = bl nn := ⟨_, rfl⟩
          have kb := key_bits HK.out
          rw [← hb_, ← HNN.out, ← hnb] at kb
          obtain ⟨kb1, kb2, kb3⟩ := kb
          obtain ⟨E, hE⟩ : ∃ E, E = encLen b := ⟨_, rfl⟩
          have q0 : ((b : Int) + 7) / 8 = (E : Int) := by rw [hE]; unfold encLen; omega
          have q1 : ((b : Int) + 7).tdiv 8 = (E : Int) := by rw [Int.tdiv_eq_ediv_of_nonneg (by omega)]; exact q0
          have eb : E ≤ 513 := by rw [hE]; unfold encLen; omega
          have gb : (nb : Int) - 1 = (b : Int) := by omega
          have bt := fun W (k : CanAt W vN nn) => bits_v k.num
          rw [← hnb] at bt
          have fx := fun W v (k : CanAt W v pp) => fixed_v k.num E (by omega)
          obtain ⟨fb, hfb⟩ : ∃ f, f = fitB pp (E : Int) := ⟨_, rfl⟩
          unfold FixedPost fixL at fx
          rw [← hfb, Int.toNat_natCast] at fx
          obtain ⟨F, hF⟩ : ∃ F, F = (if fb = true then beN pp E else []) := ⟨_, rfl⟩
          rw [← hF] at fx
          have uF : U8 F := by
            rw [hF]
            split
            · exact beN_u8 _ _
            · exact .nil (by omega)
          obtain ⟨X, hX⟩ : ∃ X, X = sha h m := ⟨_, rfl⟩
          have uX : U8 X := by rw [hX]; exact sha_u8 _ _
          have lX : Hid (X.length = z) := Lib.hid (by rw [hX, sha_len, HZ.out])
          obtain ⟨zF, hzF⟩ : ∃ q, q = F.length := ⟨_, rfl⟩
          have cs := fun W (k : Below w.heap.size w W) => Sum1_c h am pm m W (sm.below k) um (by have := HM.out; have := lz.out; omega) (ht.below k)
          rw [← hX, ← HM.out] at cs
          obtain ⟨B, hBd⟩ : ∃ B, B = decide (holdsOf h X F (b : Int)) := ⟨_, rfl⟩
          have ch := fun (hf : fb = true) a a' c c' W (k : Sl .u8 W a c X) (k' : Sl .u8 W a' c' F) (t : Below w.heap.size w W) => lucky_c h HH.out b (by omega) a a' c c' X F W k k' uX uF (by rw [lX.out, HZ.out]) (by rw [hF, if_pos hf, beN_len, hE]) (ht.below t)
          rw [← hBd, lX.out, ← hzF] at ch
          have iff1 : (fb = true ∧ B = true) ↔ yHolds h n e m s := by
            unfold yHolds
            rw [← ePP, ← hb_, ← hE, hBd, decide_eq_true_iff, hX]
            constructor
            · rintro ⟨h1, h2⟩
              rw [hF, if_pos h1] at h2
              exact ⟨LL.out, by rw [← HXX.out, ← HNN.out]; exact HLT.out, by rw [← hfb]; exact h1, h2⟩
            · rintro ⟨_, _, h1, h2⟩
              rw [← hfb] at h1
              exact ⟨h1, by rw [hF, if_pos h1]; exact h2⟩
          have IFF := Lib.hid iff1
          have ZF := Lib.hid hzF
          clear hpp ePP hb_ hnb hE hfb hF hX hBd iff1 hzF kb3
          go_wp2_with fail
          refine (ex).mono ?_; rintro e w8 ⟨vP, rfl, cP, hb⟩
          replace cN := cN.below hb
          replace cS := cS.below hb
          replace cE := cE.below hb
          replace hB := hB.trans (hb.mono hB.size)
          clear hb
          clear ex
          go_wp2_with fail
          refine (bt _ cN).mono ?_; rintro e_ w' ⟨rfl, rfl⟩
          clear bt
          go_wp2_with fail
          refine (fx _ _ cP).mono ?_; rintro e w9 ⟨v1, rfl, hn, hb⟩
          replace cN := cN.below hb
          replace cS := cS.below hb
          replace cE := cE.below hb
          replace cP := cP.below hb
          replace hB := hB.trans (hb.mono hB.size)
          clear hb
          obtain ⟨aF, pF, rfl, sF⟩ := hn.sl
          rw [← ZF.out]
          clear hn fx
          by_cases hf : fb = true
          · subst hf
            go_wp2_with fail
            refine (cs _ hB).mono ?_; rintro e w10 ⟨v2, rfl, hn, hb⟩
            replace cN := cN.below hb
            replace cS := cS.below hb
            replace cE := cE.below hb
            replace cP := cP.below hb
            replace sF := sF.below hb
            replace hB := hB.trans (hb.mono hB.size)
            clear hb
            obtain ⟨aX, pX, rfl, sX⟩ := hn.sl
            rw [lX.out]
            clear hn cs
            go_wp2_with fail
            refine (ch (by trivial) _ _ _ _ _ sX sF hB).mono ?_; rintro e w11 ⟨rfl, hb⟩
            replace cN := cN.below hb
            replace cS := cS.below hb
            replace cE := cE.below hb
            replace cP := cP.below hb
            replace sF := sF.below hb
            replace sX := sX.below hb
            replace hB := hB.trans (hb.mono hB.size)
            clear hb
            clear ch
            by_cases hq : B = true
            · subst hq
              obtain rfl : V = 0 := by rw [HV.out]; exact yHolds_yes (IFF.out.1 ⟨by trivial, by trivial⟩) HH.out HK.out
              go_wp2_with fail
              go_ret
              exact ⟨rfl, hB⟩
            · have hv : ¬ yHolds h n e m s := fun k => hq (IFF.out.2 k).2
              obtain rfl : B = false := by cases B <;> simp_all
              obtain rfl : V = 91 := by rw [HV.out]; exact yHolds_no hv HH.out HK.out
              clear hv hq
              go_wp2_with fail
              go_ret
              exact ⟨rfl, hB⟩
          · have hv : ¬ yHolds h n e m s := fun k => hf (IFF.out.2 k).1
            obtain rfl : fb = false := by cases fb <;> simp_all
            obtain rfl : V = 91 := by rw [HV.out]; exact yHolds_no hv HH.out HK.out
            clear hv hf
            go_wp2_with fail
            go_ret
            exact ⟨rfl, hB⟩
        · have hv : ¬ yHolds h n e m s := fun k => hlt (by rw [HXX.out, HNN.out]; exact k.2.1)
          have hci := cmpI_ge hlt
          obtain ⟨ci, hcc⟩ : ∃ ci, ci = cmpI xx nn := ⟨_, rfl⟩
          have cc := cmp_v cS.num cN.num
          rw [← hcc] at hci cc
          have hdc : decide ((0 : Int) ≤ ci) = true := decide_eq_true hci
          obtain rfl : V = 91 := by rw [HV.out]; exact yHolds_no hv HH.out HK.out
          clear hcc hlt hv
          go_wp2_with fail
          refine (cc).mono ?_; rintro e w6 ⟨rfl, hd⟩
          have hb := hd.b
          clear hd
          replace cN := cN.below hb
          replace cS := cS.below hb
          replace hB := hB.trans (hb.mono hB.size)
          clear hb
          clear cc
          go_wp2_with fail
          go_ret
          exact ⟨rfl, hB⟩
      · have hv : ¬ yHolds h n e m s := fun k => hl (by rw [HS.out, HN.out]; exact k.1)
        have g0 : ((zs : Int) != (zn : Int)) = true := by simp; omega
        obtain rfl : V = 91 := by rw [HV.out]; exact yHolds_no hv HH.out HK.out
        clear hl hv
        go_wp2_with fail
        go_ret
        exact ⟨rfl, hB⟩
    · rw [keyCode_no hk]
      obtain rfl : V = 90 := by rw [HV.out]; unfold ycode; rw [if_pos HH.out, if_neg hk]
      clear hk
      go_wp2_with fail
      go_ret
      exact ⟨rfl, hB⟩
  · obtain rfl : V = 111 := by rw [HV.out]; unfold ycode; rw [if_neg hh]
    obtain rfl : z = 0 := by rw [HZ.out]; unfold IsHash at hh; unfold shaSize; simp_all
    clear hh
    go_wp2_with fail
    refine (sz _).mono ?_; rintro e_ w' ⟨rfl, rfl⟩
    clear sz
    go_wp2_with fail
    go_ret
    exact ⟨rfl, hB⟩
end Go.Proofs.YtbmdifeanocahaaDoor
