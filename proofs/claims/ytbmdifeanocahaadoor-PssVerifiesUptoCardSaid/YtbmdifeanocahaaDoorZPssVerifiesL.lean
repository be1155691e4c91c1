import Derived.Test.YtbmdifeanocahaaDoorZ39
import Derived.Test.YtbmdifeanocahaaDoorZ24
/- signetlaw10.PssVerifies by its contract. (Printed by gen_pssverifies.py.) -/
set_option linter.unusedVariables false
set_option linter.unusedSimpArgs false
namespace Go.Proofs.YtbmdifeanocahaaDoor
open Go.RowKit Go.Sg

set_option maxHeartbeats 16000000 in
set_option maxRecDepth 20000 in
theorem PssVerifies_c (h : Int) (an ae am as_ : Option Addr) (pn pe pm ps : Nat) (n e m s : List Int) (w : World) (sn : Sl .u8 w an pn n) (se : Sl .u8 w ae pe e) (sm : Sl .u8 w am pm m) (ss : Sl .u8 w as_ ps s) (un : U8 n) (ue : U8 e) (um : U8 m) (us : U8 s) (hz : n.length + e.length + m.length + s.length ≤ 1048576) (ht : ShaTabs w) (hr : RefTabs w) :
    Calls Tryd.prog 8 #[.int .i64 h, .slice an n.length pn, .slice ae e.length pe, .slice am m.length pm, .slice as_ s.length ps] w (TruePost w) := by
  obtain ⟨zn, hzn⟩ : ∃ z, z = n.length := ⟨_, rfl⟩
  obtain ⟨ze, hze⟩ : ∃ z, z = e.length := ⟨_, rfl⟩
  obtain ⟨zm, hzm⟩ : ∃ z, z = m.length := ⟨_, rfl⟩
  obtain ⟨zs, hzs⟩ : ∃ z, z = s.length := ⟨_, rfl⟩
  rw [← hzn, ← hze, ← hzm, ← hzs] at hz ⊢
  have HN := Lib.hid hzn
  have HE := Lib.hid hze
  have HM := Lib.hid hzm
  have HS := Lib.hid hzs
  have pv : ∀ (C : Int) (M : List Int) (lM : M.length = zm) (hC : C = ycode h n e M s) (uM : U8 M) (W : World) (an ae am as_ : Option Addr) (pn pe pm ps : Nat), Sl .u8 W an pn n → Sl .u8 W ae pe e → Sl .u8 W am pm M → Sl .u8 W as_ ps s → Below w.heap.size w W →
      Calls Tryd.prog 31 #[.int .i64 h, .slice an zn pn, .slice ae ze pe, .slice am zm pm, .slice as_ zs ps] W (VPost C W) := by
    intro C M lM hC uM W an ae am as_ pn pe pm ps h1 h2 h3 h4 hB
    have := pVerify10_c h an ae am as_ pn pe pm ps n e M s W h1 h2 h3 h4 un ue uM us (by omega) (by omega) (by omega) (by omega) (ht.below hB)
    rwa [lM, ← hzn, ← hze, ← hzs, ← hC] at this
  have rv : ∀ (C : Int) (M : List Int) (lM : M.length = zm) (hC : C = ycode h n e M s) (uM : U8 M) (W : World) (am : Option Addr) (pm : Nat), Sl .u8 W am pm M → Below w.heap.size w W →
      Calls Tryd.prog 32 #[.int .i64 h, .slice an zn pn, .slice ae ze pe, .slice am zm pm, .slice as_ zs ps] W (VPost C W) := by
    intro C M lM hC uM W am pm h3 hB
    have := rVerify10_c h an ae am as_ pn pe pm ps n e M s W (sn.below hB) (se.below hB) h3 (ss.below hB) un ue uM us (by omega) (by omega) (by omega) (by omega) (hr.below hB)
    rwa [lM, ← hzn, ← hze, ← hzs, ← hC] at this
  have rm_ : ∀ (z : Nat) (bs : List Int) (a : Option Addr) (cap : Nat) (W : World), z = bs.length → z ≤ 1048576 → Sl .u8 w a cap bs → Below w.heap.size w W → Calls Tryd.prog 30 #[.slice a z cap] W (fun e w' => ∃ g, e = .returned (.slice (some ⟨g, 0, none⟩) z (z + 9)) ∧ W.heap.size ≤ g ∧ Blk w' g .u8 5 (bs ++ m9) ∧ Below W.heap.size W w') := by
    intro z bs a cap W hzz hle hs hB
    have := roomy_c a cap bs W (hs.below hB) (by omega)
    unfold RoomPost at this
    rwa [← hzz] at this
  have spr : ∀ (z : Nat) (bs : List Int) (g : Nat) (a : Option Addr) (cp : Nat) (W : World), bs.length = z → z ≤ 1048576 → U8 bs → Blk W g .u8 5 (bs ++ m9) → Sl .u8 w a cp bs → Below w.heap.size w W → Calls Tryd.prog 33 #[.slice (some ⟨g, 0, none⟩) z (z + 9), .slice a z cp] W (TellPost true W) := by
    intro z bs g a cp W hzz hle u hk hs hB
    have := spared_c g a cp bs W hk (hs.below hB) u (by omega)
    rwa [hzz] at this
  have bk : ∀ W g (X : List Int) z, X.length = z → z ≤ 1048576 → Blk W g .u8 5 (X ++ m9) → Sl .u8 W (some ⟨g, 0, none⟩) (z + 9) X := fun W g X z hX hle k => by rw [← hX]; exact blk_sl k (by omega)
  have nm : Hid ((ng m).length = zm) := Lib.hid (by rw [ng_len, HM.out])
  obtain ⟨C1, hC1⟩ : ∃ C, C = ycode h n e m s := ⟨_, rfl⟩
  obtain ⟨C2, hC2⟩ : ∃ C, C = ycode h n e (ng m) s := ⟨_, rfl⟩
  have pv1 := pv C1 m hzm.symm hC1 um
  have rv1 := rv C1 m hzm.symm hC1 um
  have pv2 := pv C2 (ng m) nm.out hC2 (ng_u8 um)
  have rv2 := rv C2 (ng m) nm.out hC2 (ng_u8 um)
  have ne1 : (C1 != C1) = false := by simp
  have eq2 : (C2 == C2) = true := by simp
  have zn1 : zn ≤ 1048576 := by omega
  have ze1 : ze ≤ 1048576 := by omega
  have zm1 : zm ≤ 1048576 := by omega
  have zs1 : zs ≤ 1048576 := by omega
  have rn := rm_ zn n an pn
  have re := rm_ ze e ae pe
  have rm := rm_ zm m am pm
  have rs := rm_ zs s as_ ps
  clear hzn hze hzm hzs hC1 hC2 pv rv rm_ hz
  go_enter Tryd.func8, Tryd.ntmps8
  have hB := Below.refl w.heap.size w
  go_wp2_with fail
  refine (rn _ HN.out zn1 sn hB).mono ?_; rintro e w1 ⟨gN, rfl, hgN, pN, hb⟩
  replace hB := hB.trans (hb.mono hB.size)
  clear hb
  have ltN := pN.lt
  have szN := hB.size
  go_wp2_with fail
  refine (re _ HE.out ze1 se hB).mono ?_; rintro e w2 ⟨gE, rfl, hgE, pE, hb⟩
  replace pN := pN.below hb pN.lt
  replace hB := hB.trans (hb.mono hB.size)
  clear hb
  have ltE := pE.lt
  have szE := hB.size
  go_wp2_with fail
  refine (rm _ HM.out zm1 sm hB).mono ?_; rintro e w3 ⟨gM, rfl, hgM, pM, hb⟩
  replace pN := pN.below hb pN.lt
  replace pE := pE.below hb pE.lt
  replace hB := hB.trans (hb.mono hB.size)
  clear hb
  have ltM := pM.lt
  have szM := hB.size
  go_wp2_with fail
  refine (rs _ HS.out zs1 ss hB).mono ?_; rintro e w4 ⟨gS, rfl, hgS, pS, hb⟩
  replace pN := pN.below hb pN.lt
  replace pE := pE.below hb pE.lt
  replace pM := pM.below hb pM.lt
  replace hB := hB.trans (hb.mono hB.size)
  clear hb
  have ltS := pS.lt
  have szS := hB.size
  have bM : w.heap.size ≤ gM := by omega
  have d1 : gN ≠ gM := by omega
  have d2 : gE ≠ gM := by omega
  have d3 : gS ≠ gM := by omega
  clear ltN ltE ltM ltS szN szE szM szS hgN hgE hgM hgS rn re rm rs
  go_wp2_with fail
  refine (pv1 _ _ _ _ _ _ _ _ _ (bk _ _ n zn HN.out.symm zn1 pN) (bk _ _ e ze HE.out.symm ze1 pE) (bk _ _ m zm HM.out.symm zm1 pM) (bk _ _ s zs HS.out.symm zs1 pS) hB).mono ?_; rintro e w5 ⟨rfl, hb⟩
  replace pN := pN.below hb pN.lt
  replace pE := pE.below hb pE.lt
  replace pM := pM.below hb pM.lt
  replace pS := pS.below hb pS.lt
  replace hB := hB.trans (hb.mono hB.size)
  clear hb
  go_wp2_with fail
  refine (rv1 _ _ _ (sm.below hB) hB).mono ?_; rintro e w6 ⟨rfl, hb⟩
  replace pN := pN.below hb pN.lt
  replace pE := pE.below hb pE.lt
  replace pM := pM.below hb pM.lt
  replace pS := pS.below hb pS.lt
  replace hB := hB.trans (hb.mono hB.size)
  clear hb
  go_wp2_with fail
  refine (spr _ n _ _ _ _ HN.out.symm zn1 un pN sn hB).mono ?_; rintro e w7 ⟨rfl, hb⟩
  replace pN := pN.below hb pN.lt
  replace pE := pE.below hb pE.lt
  replace pM := pM.below hb pM.lt
  replace pS := pS.below hb pS.lt
  replace hB := hB.trans (hb.mono hB.size)
  clear hb
  go_wp2_with fail
  refine (spr _ e _ _ _ _ HE.out.symm ze1 ue pE se hB).mono ?_; rintro e w8 ⟨rfl, hb⟩
  replace pN := pN.below hb pN.lt
  replace pE := pE.below hb pE.lt
  replace pM := pM.below hb pM.lt
  replace pS := pS.below hb pS.lt
  replace hB := hB.trans (hb.mono hB.size)
  clear hb
  go_wp2_with fail
  refine (spr _ m _ _ _ _ HM.out.symm zm1 um pM sm hB).mono ?_; rintro e w9 ⟨rfl, hb⟩
  replace pN := pN.below hb pN.lt
  replace pE := pE.below hb pE.lt
  replace pM := pM.below hb pM.lt
  replace pS := pS.below hb pS.lt
  replace hB := hB.trans (hb.mono hB.size)
  clear hb
  go_wp2_with fail
  refine (spr _ s _ _ _ _ HS.out.symm zs1 us pS ss hB).mono ?_; rintro e w10 ⟨rfl, hb⟩
  replace pN := pN.below hb pN.lt
  replace pE := pE.below hb pE.lt
  replace pM := pM.below hb pM.lt
  replace pS := pS.below hb pS.lt
  replace hB := hB.trans (hb.mono hB.size)
  clear hb
  have tc := turn_c gM (zm + 9) m m9 _ pM um (by rw [← HM.out]; omega) (by rw [← HM.out]; omega)
  rw [← HM.out] at tc
  go_wp2_with fail
  refine tc.mono ?_; rintro e_ wt ⟨rfl, qM, hgr⟩
  replace pN := pN.grown hgr (by simp; omega)
  replace pE := pE.grown hgr (by simp; omega)
  replace pS := pS.grown hgr (by simp; omega)
  replace hB := hB.grown hgr hB.size (by simp; omega)
  clear pM hgr tc
  have pM := qM
  clear qM
  go_wp2_with fail
  refine (rv2 _ _ _ (bk _ _ (ng m) zm nm.out zm1 pM) hB).mono ?_; rintro e w11 ⟨rfl, hb⟩
  replace pN := pN.below hb pN.lt
  replace pE := pE.below hb pE.lt
  replace pM := pM.below hb pM.lt
  replace pS := pS.below hb pS.lt
  replace hB := hB.trans (hb.mono hB.size)
  clear hb
  go_wp2_with fail
  refine (pv2 _ _ _ _ _ _ _ _ _ (bk _ _ n zn HN.out.symm zn1 pN) (bk _ _ e ze HE.out.symm ze1 pE) (bk _ _ (ng m) zm nm.out zm1 pM) (bk _ _ s zs HS.out.symm zs1 pS) hB).mono ?_; rintro e w12 ⟨rfl, hb⟩
  replace pN := pN.below hb pN.lt
  replace pE := pE.below hb pE.lt
  replace pM := pM.below hb pM.lt
  replace pS := pS.below hb pS.lt
  replace hB := hB.trans (hb.mono hB.size)
  clear hb
  go_wp2_with fail
  go_ret
  exact ⟨rfl, hB⟩
end Go.Proofs.YtbmdifeanocahaaDoor
