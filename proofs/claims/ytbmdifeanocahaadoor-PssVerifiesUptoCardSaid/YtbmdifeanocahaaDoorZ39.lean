import Derived.Test.YtbmdifeanocahaaDoorZ34
import Derived.Test.YtbmdifeanocahaaDoorZ26
import Derived.Test.YtbmdifeanocahaaDoorZ38
/- signetref10.Verify by its contract. (Printed by gen_pssy.py.) -/
set_option linter.unusedVariables false
set_option linter.unusedSimpArgs false
namespace Go.Proofs.YtbmdifeanocahaaDoor
open Go.RowKit Go.Sg

set_option maxHeartbeats 8000000 in
set_option maxRecDepth 20000 in
theorem rVerify10_c (h : Int) (an ae am as_ : Option Addr) (pn pe pm ps : Nat) (n e m s : List Int) (w : World) (sn : Sl .u8 w an pn n) (se : Sl .u8 w ae pe e) (sm : Sl .u8 w am pm m) (ss : Sl .u8 w as_ ps s) (un : U8 n) (ue : U8 e) (um : U8 m) (us : U8 s) (ln : n.length ≤ 2097152) (le : e.length ≤ 2097152) (lm : m.length ≤ 2097152) (ls : s.length ≤ 2097152) (ht : RefTabs w) :
    Calls Tryd.prog 32 #[.int .i64 h, .slice an n.length pn, .slice ae e.length pe, .slice am m.length pm, .slice as_ s.length ps] w (VPost (ycode h n e m s) w) := by
  obtain ⟨code, hcode⟩ : ∃ c, c = ycode h n e m s := ⟨_, rfl⟩
  rw [← hcode]
  have HC := Lib.hid hcode
  clear hcode
  obtain ⟨z, hz⟩ : ∃ z, z = shaSize h := ⟨_, rfl⟩
  have sz := rSize_c h w
  rw [← hz] at sz
  have HZ := Lib.hid hz
  clear hz
  go_enter Tryd.func32, Tryd.ntmps32
  have hB := Below.refl w.heap.size w
  by_cases hh : IsHash h
  · have HH := Lib.hid hh
    have e0 : ((z : Int) == 0) = false := beq_false_of_ne (by have := hh.size_le.2.1; have := HZ.out; omega)
    clear hh
    go_wp2_with fail
    refine sz.mono ?_; rintro e_ w' ⟨rfl, rfl⟩
    clear sz
    go_wp2_with fail
    refine (rKey_c _ _ _ _ _ _ _ sn se un ue (by omega) (by omega)).mono ?_; rintro e w1 ⟨rfl, hb⟩
    replace sn := sn.below hb
    replace se := se.below hb
    replace sm := sm.below hb
    replace ss := ss.below hb
    replace ht := ht.below hb
    replace hB := hB.trans (hb.mono hB.size)
    clear hb
    by_cases hk : keyOk n e
    · rw [keyCode_ok hk]
      have HK := Lib.hid hk
      clear hk
      obtain ⟨nn, hnn⟩ : ∃ x, x = bval n := ⟨_, rfl⟩
      obtain ⟨xx, hxx⟩ : ∃ x, x = bval s := ⟨_, rfl⟩
      obtain ⟨ee, hee⟩ : ∃ x, x = bval e := ⟨_, rfl⟩
      have fN := fun W (h : Sl .u8 W an pn n) => Number_can h un ln
      have fS := fun W (h : Sl .u8 W as_ ps s) => Number_can h us ls
      have fE := fun W (h : Sl .u8 W ae pe e) => Number_can h ue le
      rw [← hnn] at fN
      rw [← hxx] at fS
      rw [← hee] at fE
      have HNN := Lib.hid hnn
      have HXX := Lib.hid hxx
      have HEE := Lib.hid hee
      clear hnn hxx hee
      go_wp2_with fail
      refine (fN _ sn).mono ?_; rintro e w2 ⟨vN, rfl, cN, hb⟩
      replace sn := sn.below hb
      replace se := se.below hb
      replace sm := sm.below hb
      replace ss := ss.below hb
      replace ht := ht.below hb
      replace hB := hB.trans (hb.mono hB.size)
      clear hb
      go_wp2_with fail
      refine (fS _ ss).mono ?_; rintro e w3 ⟨vS, rfl, cS, hb⟩
      replace sn := sn.below hb
      replace se := se.below hb
      replace sm := sm.below hb
      replace ss := ss.below hb
      replace ht := ht.below hb
      replace cN := cN.below hb
      replace hB := hB.trans (hb.mono hB.size)
      clear hb
      clear fN fS
      by_cases hl : s.length = n.length
      · have g1 : ((s.length : Int) != (n.length : Int)) = false := by simp [hl]
        have HL := Lib.hid hl
        obtain ⟨ns, hns⟩ : ∃ x, x = s.length := ⟨_, rfl⟩
        obtain ⟨nl_, hnl⟩ : ∃ x, x = n.length := ⟨_, rfl⟩
        rw [← hns, ← hnl] at g1
        have HNS := Lib.hid hns
        have HNL := Lib.hid hnl
        rw [← hns, ← hnl]
        clear hl hns hnl
        by_cases hlt : xx < nn
        · have HLT := Lib.hid hlt
          clear hlt
          go_wp2_with fail
          refine (cmp7_v cS.num cN.num).mono ?_; rintro e w' ⟨rfl, rfl⟩
          rw [cmpI_lt HLT.out]
          go_wp2_with fail
          refine (fE _ se).mono ?_; rintro e w4 ⟨vE, rfl, cE, hb⟩
          replace sn := sn.below hb
          replace se := se.below hb
          replace sm := sm.below hb
          replace ss := ss.below hb
          replace ht := ht.below hb
          replace cN := cN.below hb
          replace cS := cS.below hb
          replace hB := hB.trans (hb.mono hB.size)
          clear hb
          clear fE
          have ok : Hid (Ok3 xx ee nn) := Lib.hid (by rw [HXX.out, HEE.out, HNN.out]; exact ok3_10 HK.out un us HL.out)
          have ex : Calls Tryd.prog 48 #[vS, vE, vN] w4 (OkPost (xx ^ ee % nn) w4) := (exp7_v cS.num cE.num cN.num).mono fun e_ w' hp => hp.ok ok.out.code (ok.out.lim.of_lt (Nat.mod_lt _ (by have := ok.out.two; omega))) (by omega)
          go_wp2_with fail
          refine (ex).mono ?_; rintro e w5 ⟨vP, rfl, cP, hb⟩
          replace sn := sn.below hb
          replace se := se.below hb
          replace sm := sm.below hb
          replace ss := ss.below hb
          replace ht := ht.below hb
          replace cN := cN.below hb
          replace cS := cS.below hb
          replace cE := cE.below hb
          replace hB := hB.trans (hb.mono hB.size)
          clear hb
          clear ex
          obtain ⟨pp, hpp⟩ : ∃ x, x = xx ^ ee % nn := ⟨_, rfl⟩
          rw [← hpp] at cP
          have ePP : pp = yNum n e s := by rw [hpp, HXX.out, HEE.out, HNN.out]; rfl
          obtain ⟨b, hb_⟩ : ∃ b, b = yBits n := ⟨_, rfl⟩
          obtain ⟨nb, hnb⟩ : ∃ b, b = bl nn := ⟨_, rfl⟩
          have kb := key_bits HK.out
          rw [← hb_, ← HNN.out, ← hnb] at kb
          obtain ⟨kb1, kb2, kb3⟩ := kb
          obtain ⟨E, hE⟩ : ∃ E, E = encLen b := ⟨_, rfl⟩
          have q0 : ((b : Int) + 7) / 8 = (E : Int) := by rw [hE]; unfold encLen; omega
          have eb : E ≤ 513 := by rw [hE]; unfold encLen; omega
          have gb : (nb : Int) - 1 = (b : Int) := by omega
          have bt := bits10_v cN.num
          rw [← hnb] at bt
          have fx := fixed10_v cP.num E (by omega)
          have q1 : ((b : Int) + 7).tdiv 8 = (E : Int) := by rw [Int.tdiv_eq_ediv_of_nonneg (by omega)]; exact q0
          obtain ⟨fb, hfb⟩ : ∃ f, f = fitB pp (E : Int) := ⟨_, rfl⟩
          unfold FixedPost fixL at fx
          rw [← hfb, Int.toNat_natCast] at fx
          obtain ⟨F, hF⟩ : ∃ F, F = (if fb = true then beN pp E else []) := ⟨_, rfl⟩
          rw [← hF] at fx
          have uF : U8 F := by
            rw [hF]
            split
            · exact beN_u8 _ _
            · exact .nil (by omega)
          obtain ⟨X, hX⟩ : ∃ X, X = sha h m := ⟨_, rfl⟩
          have uX : U8 X := by rw [hX]; exact sha_u8 _ _
          have lX : Hid (X.length = z) := Lib.hid (by rw [hX, sha_len, HZ.out])
          obtain ⟨zF, hzF⟩ : ∃ q, q = F.length := ⟨_, rfl⟩
          have zFb : zF ≤ 513 := by
            rw [hzF, hF]
            split
            · rw [beN_len]; exact eb
            · simp
          have cs := fun W (k : Sl .u8 W am pm m) (t : RefTabs W) => rSum_c h am pm m W k um (by omega) t
          rw [← hX] at cs
          obtain ⟨B, hBd⟩ : ∃ B, B = decide (holdsOf h X F (b : Int)) := ⟨_, rfl⟩
          have ch := fun a a' c c' W (k : Sl .u8 W a c X) (k' : Sl .u8 W a' c' F) (t : RefTabs W) => rHolds_c h (b : Int) a a' c c' X F W k k' uX uF (by rw [← hzF, lX.out]; have := shaSize_le h; have := HZ.out; omega) t
          rw [← hBd, lX.out, ← hzF] at ch
          have iff1 : (fb = true ∧ B = true) ↔ yHolds h n e m s := by
            unfold yHolds
            rw [← ePP, ← hb_, ← hE, hBd, decide_eq_true_iff, hX]
            constructor
            · rintro ⟨h1, h2⟩
              rw [hF, if_pos h1] at h2
              exact ⟨HL.out, by rw [← HXX.out, ← HNN.out]; exact HLT.out, by rw [← hfb]; exact h1, h2⟩
            · rintro ⟨_, _, h1, h2⟩
              rw [← hfb] at h1
              exact ⟨h1, by rw [hF, if_pos h1]; exact h2⟩
          have IFF := Lib.hid iff1
          have ZF := Lib.hid hzF
          clear hpp ePP hb_ hnb hE hfb hF hX hBd iff1 hzF kb3
          go_wp2_with fail
          refine bt.mono ?_; rintro e_ w' ⟨rfl, rfl⟩
          clear bt
          go_wp2_with fail
          refine (fx).mono ?_; rintro e w6 ⟨v1, rfl, hn, hb⟩
          replace sn := sn.below hb
          replace se := se.below hb
          replace sm := sm.below hb
          replace ss := ss.below hb
          replace ht := ht.below hb
          replace cN := cN.below hb
          replace cS := cS.below hb
          replace cE := cE.below hb
          replace cP := cP.below hb
          replace hB := hB.trans (hb.mono hB.size)
          clear hb
          obtain ⟨aF, pF, rfl, sF⟩ := hn.sl
          rw [← ZF.out]
          clear hn fx
          by_cases hf : fb = true
          · subst hf
            go_wp2_with fail
            refine (cs _ sm ht).mono ?_; rintro e w7 ⟨v2, rfl, hn, hb⟩
            replace sn := sn.below hb
            replace se := se.below hb
            replace sm := sm.below hb
            replace ss := ss.below hb
            replace ht := ht.below hb
            replace cN := cN.below hb
            replace cS := cS.below hb
            replace cE := cE.below hb
            replace cP := cP.below hb
            replace sF := sF.below hb
            replace hB := hB.trans (hb.mono hB.size)
            clear hb
            obtain ⟨aX, pX, rfl, sX⟩ := hn.sl
            rw [lX.out]
            clear hn cs
            go_wp2_with fail
            refine (ch _ _ _ _ _ sX sF ht).mono ?_; rintro e w8 ⟨rfl, hb⟩
            replace sn := sn.below hb
            replace se := se.below hb
            replace sm := sm.below hb
            replace ss := ss.below hb
            replace ht := ht.below hb
            replace cN := cN.below hb
            replace cS := cS.below hb
            replace cE := cE.below hb
            replace cP := cP.below hb
            replace sF := sF.below hb
            replace sX := sX.below hb
            replace hB := hB.trans (hb.mono hB.size)
            clear hb
            clear ch
            by_cases hq : B = true
            · subst hq
              obtain rfl : code = 0 := by rw [HC.out]; exact yHolds_yes (IFF.out.1 ⟨by trivial, by trivial⟩) HH.out HK.out
              go_wp2_with fail
              go_ret
              exact ⟨rfl, hB⟩
            · have hv : ¬ yHolds h n e m s := fun k => hq (IFF.out.2 k).2
              obtain rfl : B = false := by cases B <;> simp_all
              obtain rfl : code = 91 := by rw [HC.out]; exact yHolds_no hv HH.out HK.out
              clear hv hq
              go_wp2_with fail
              go_ret
              exact ⟨rfl, hB⟩
          · have hv : ¬ yHolds h n e m s := fun k => hf (IFF.out.2 k).1
            obtain rfl : fb = false := by cases fb <;> simp_all
            obtain rfl : code = 91 := by rw [HC.out]; exact yHolds_no hv HH.out HK.out
            clear hv hf
            go_wp2_with fail
            go_ret
            exact ⟨rfl, hB⟩
        · have hv : ¬ yHolds h n e m s := fun k => hlt (by rw [HXX.out, HNN.out]; exact k.2.1)
          have hci := cmpI_ge hlt
          obtain ⟨ci, hcc⟩ : ∃ ci, ci = cmpI xx nn := ⟨_, rfl⟩
          have cc := cmp7_v cS.num cN.num
          rw [← hcc] at hci cc
          have hdc : decide ((0 : Int) ≤ ci) = true := decide_eq_true hci
          obtain rfl : code = 91 := by rw [HC.out]; exact yHolds_no hv HH.out HK.out
          clear hcc hlt hv
          go_wp2_with fail
          refine cc.mono ?_; rintro e_ w9 ⟨rfl, rfl⟩
          go_wp2_with fail
          go_ret
          exact ⟨rfl, hB⟩
      · have hv : ¬ yHolds h n e m s := fun k => hl k.1
        have g1 : ((s.length : Int) != (n.length : Int)) = true := by simp; omega
        obtain rfl : code = 91 := by rw [HC.out]; exact yHolds_no hv HH.out HK.out
        clear hl hv
        go_wp2_with fail
        go_ret
        exact ⟨rfl, hB⟩
    · rw [keyCode_no hk]
      obtain rfl : code = 90 := by rw [HC.out]; unfold ycode; rw [if_pos HH.out, if_neg hk]
      clear hk
      go_wp2_with fail
      go_ret
      exact ⟨rfl, hB⟩
  · obtain rfl : code = 111 := by rw [HC.out]; unfold ycode; rw [if_neg hh]
    obtain rfl : z = 0 := by rw [HZ.out]; unfold IsHash at hh; unfold shaSize; simp_all
    clear hh
    go_wp2_with fail
    refine sz.mono ?_; rintro e_ w' ⟨rfl, rfl⟩
    go_wp2_with fail
    go_ret
    exact ⟨rfl, hB⟩
end Go.Proofs.YtbmdifeanocahaaDoor
