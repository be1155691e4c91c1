import Derived.Test.YtbmdifeanocahaaDoorZ31
/- signetlaw9.RsaVerifies by its contract. (Printed by gen_rsalaws.py.) -/
set_option linter.unusedVariables false
set_option linter.unusedSimpArgs false
namespace Go.Proofs.YtbmdifeanocahaaDoor
open Go.RowKit Go.Sg

set_option maxHeartbeats 16000000 in
set_option maxRecDepth 20000 in
theorem RsaVerifies_c (h : Int) (an ae am as_ : Option Addr) (pn pe pm ps : Nat) (n e m s : List Int) (w : World) (sn : Sl .u8 w an pn n) (se : Sl .u8 w ae pe e) (sm : Sl .u8 w am pm m) (ss : Sl .u8 w as_ ps s) (un : U8 n) (ue : U8 e) (um : U8 m) (us : U8 s) (hz : n.length + e.length + m.length + s.length ≤ 1048576) (ht : ShaTabs w) (hr : RefTabs w) (hi : Infos w) :
    Calls Tryd.prog 4 #[.int .i64 h, .slice an n.length pn, .slice ae e.length pe, .slice am m.length pm, .slice as_ s.length ps] w (TruePost w) := by
  obtain ⟨zn, hzn⟩ : ∃ z, z = n.length := ⟨_, rfl⟩
  obtain ⟨ze, hze⟩ : ∃ z, z = e.length := ⟨_, rfl⟩
  obtain ⟨zm, hzm⟩ : ∃ z, z = m.length := ⟨_, rfl⟩
  obtain ⟨zs, hzs⟩ : ∃ z, z = s.length := ⟨_, rfl⟩
  rw [← hzn, ← hze, ← hzm, ← hzs] at hz ⊢
  have HN := Lib.hid hzn
  have HE := Lib.hid hze
  have HM := Lib.hid hzm
  have HS := Lib.hid hzs
  have pv : ∀ (C : Int) (M S : List Int) (lM : M.length = zm) (lS : S.length = zs) (hC : C = vcode h n e M S) (uM : U8 M) (uS : U8 S) (W : World) (an ae am as_ : Option Addr) (pn pe pm ps : Nat), Sl .u8 W an pn n → Sl .u8 W ae pe e → Sl .u8 W am pm M → Sl .u8 W as_ ps S → Below w.heap.size w W →
      Calls Tryd.prog 17 #[.int .i64 h, .slice an zn pn, .slice ae ze pe, .slice am zm pm, .slice as_ zs ps] W (VPost C W) := by
    intro C M S lM lS hC uM uS W an ae am as_ pn pe pm ps h1 h2 h3 h4 hB
    have := pVerify9_c h an ae am as_ pn pe pm ps n e M S W h1 h2 h3 h4 un ue uM uS (by omega) (by omega) (by omega) (by omega) (ht.below hB) (hi.below hB)
    rwa [lM, lS, ← hzn, ← hze, ← hC] at this
  have rv : ∀ (C : Int) (M S : List Int) (lM : M.length = zm) (lS : S.length = zs) (hC : C = vcode h n e M S) (uM : U8 M) (uS : U8 S) (W : World) (am as_ : Option Addr) (pm ps : Nat), Sl .u8 W am pm M → Sl .u8 W as_ ps S → Below w.heap.size w W →
      Calls Tryd.prog 18 #[.int .i64 h, .slice an zn pn, .slice ae ze pe, .slice am zm pm, .slice as_ zs ps] W (VPost C W) := by
    intro C M S lM lS hC uM uS W am as_ pm ps h3 h4 hB
    have := rVerify9_c h an ae am as_ pn pe pm ps n e M S W (sn.below hB) (se.below hB) h3 h4 un ue uM uS (by omega) (by omega) (by omega) (by omega) (hr.below hB)
    rwa [lM, lS, ← hzn, ← hze, ← hC] at this
  have len_ : ∀ (z : Nat) (bs : List Int) (a : Option Addr) (cap : Nat) (W : World), z = bs.length → z ≤ 1048576 → Sl .u8 w a cap bs → Below w.heap.size w W → Calls Tryd.prog 16 #[.slice a z cap] W (fun e w' => ∃ g cap, e = .returned (.slice (some ⟨g, 0, none⟩) z cap) ∧ W.heap.size ≤ g ∧ Pre w' g .u8 5 cap (bs ++ marks) ∧ Below W.heap.size W w') := by
    intro z bs a cap W hzz hle hs hB
    have := lent_c a cap bs W (hs.below hB) (by omega)
    unfold LentPost at this
    rwa [← hzz] at this
  have stl : ∀ (z : Nat) (bs : List Int) (g cap : Nat) (a : Option Addr) (cp : Nat) (W : World), bs.length = z → Pre W g .u8 5 cap (bs ++ marks) → Sl .u8 W a cp bs → Calls Tryd.prog 19 #[.slice (some ⟨g, 0, none⟩) z cap, .slice a z cp] W (TellPost true W) := by
    intro z bs g cap a cp W hzz hp hs
    have := still9_c g cap a cp bs W hp hs
    rwa [hzz] at this
  have bk : ∀ W g cp (X : List Int), Pre W g .u8 5 cp (X ++ marks) → Sl .u8 W (some ⟨g, 0, none⟩) cp X := fun W g cp X k => by have := (k.sl).take X.length; rwa [List.take_left] at this
  obtain ⟨C1, hC1⟩ : ∃ C, C = vcode h n e m s := ⟨_, rfl⟩
  have pv1 := pv C1 m s hzm.symm hzs.symm hC1 um us
  have rv1 := rv C1 m s hzm.symm hzs.symm hC1 um us
  have ne1 : (C1 != C1) = false := by simp
  have ln := len_ zn n an pn
  have le := len_ ze e ae pe
  have lm := len_ zm m am pm
  have ls := len_ zs s as_ ps
  clear hzn hze hzm hzs hC1
  go_enter Tryd.func4, Tryd.ntmps4
  have hB := Below.refl w.heap.size w
  go_wp2_with fail
  refine (ln _ HN.out (by omega) sn hB).mono ?_; rintro e w1 ⟨gN, cN, rfl, hgN, pN, hb⟩
  replace hB := hB.trans (hb.mono hB.size)
  clear hb
  have ltN := pN.lt
  have szN := hB.size
  go_wp2_with fail
  refine (le _ HE.out (by omega) se hB).mono ?_; rintro e w2 ⟨gE, cE, rfl, hgE, pE, hb⟩
  replace pN := pN.keep hb
  replace hB := hB.trans (hb.mono hB.size)
  clear hb
  have ltE := pE.lt
  have szE := hB.size
  go_wp2_with fail
  refine (lm _ HM.out (by omega) sm hB).mono ?_; rintro e w3 ⟨gM, cM, rfl, hgM, pM, hb⟩
  replace pN := pN.keep hb
  replace pE := pE.keep hb
  replace hB := hB.trans (hb.mono hB.size)
  clear hb
  have ltM := pM.lt
  have szM := hB.size
  go_wp2_with fail
  refine (ls _ HS.out (by omega) ss hB).mono ?_; rintro e w4 ⟨gS, cS, rfl, hgS, pS, hb⟩
  replace pN := pN.keep hb
  replace pE := pE.keep hb
  replace pM := pM.keep hb
  replace hB := hB.trans (hb.mono hB.size)
  clear hb
  have ltS := pS.lt
  have szS := hB.size
  have bM : w.heap.size ≤ gM := by omega
  have bS : w.heap.size ≤ gS := by omega
  have d1 : gN ≠ gM := by omega
  have d2 : gE ≠ gM := by omega
  have d3 : gS ≠ gM := by omega
  have d4 : gN ≠ gS := by omega
  have d5 : gE ≠ gS := by omega
  have d6 : gM ≠ gS := by omega
  clear ltN ltE ltM ltS szN szE szM szS hgN hgE hgM hgS ln le lm ls len_
  go_wp2_with fail
  refine (pv1 _ _ _ _ _ _ _ _ _ (bk _ _ _ _ pN) (bk _ _ _ _ pE) (bk _ _ _ _ pM) (bk _ _ _ _ pS) hB).mono ?_; rintro e w5 ⟨rfl, hb⟩
  replace pN := pN.keep hb
  replace pE := pE.keep hb
  replace pM := pM.keep hb
  replace pS := pS.keep hb
  replace hB := hB.trans (hb.mono hB.size)
  clear hb
  go_wp2_with fail
  refine (rv1 _ _ _ _ _ (sm.below hB) (ss.below hB) hB).mono ?_; rintro e w6 ⟨rfl, hb⟩
  replace pN := pN.keep hb
  replace pE := pE.keep hb
  replace pM := pM.keep hb
  replace pS := pS.keep hb
  replace hB := hB.trans (hb.mono hB.size)
  clear hb
  go_wp2_with fail
  refine (stl _ n _ _ _ _ _ HN.out.symm pN (sn.below hB)).mono ?_; rintro e w7 ⟨rfl, hb⟩
  replace pN := pN.keep hb
  replace pE := pE.keep hb
  replace pM := pM.keep hb
  replace pS := pS.keep hb
  replace hB := hB.trans (hb.mono hB.size)
  clear hb
  go_wp2_with fail
  refine (stl _ e _ _ _ _ _ HE.out.symm pE (se.below hB)).mono ?_; rintro e w8 ⟨rfl, hb⟩
  replace pN := pN.keep hb
  replace pE := pE.keep hb
  replace pM := pM.keep hb
  replace pS := pS.keep hb
  replace hB := hB.trans (hb.mono hB.size)
  clear hb
  go_wp2_with fail
  refine (stl _ m _ _ _ _ _ HM.out.symm pM (sm.below hB)).mono ?_; rintro e w9 ⟨rfl, hb⟩
  replace pN := pN.keep hb
  replace pE := pE.keep hb
  replace pM := pM.keep hb
  replace pS := pS.keep hb
  replace hB := hB.trans (hb.mono hB.size)
  clear hb
  go_wp2_with fail
  refine (stl _ s _ _ _ _ _ HS.out.symm pS (ss.below hB)).mono ?_; rintro e w10 ⟨rfl, hb⟩
  replace pN := pN.keep hb
  replace pE := pE.keep hb
  replace pM := pM.keep hb
  replace pS := pS.keep hb
  replace hB := hB.trans (hb.mono hB.size)
  clear hb
  have tc := turned_c gM cM m marks _ pM um
  unfold TurnedPost at tc
  rw [← HM.out] at tc
  go_wp2_with fail
  refine tc.mono ?_; rintro e_ w10t ⟨rfl, Y, hYl, uY, qM, hgr⟩
  replace pN := pN.grown hgr (by simp; omega)
  replace pE := pE.grown hgr (by simp; omega)
  replace pS := pS.grown hgr (by simp; omega)
  replace hB := hB.grown hgr hB.size (by simp; omega)
  clear pM hgr tc
  have pM := qM
  clear qM
  have LY := Lib.hid hYl
  clear hYl
  have sO := bk _ _ _ _ pM
  go_wp2_with (at_builtin; refine wpList_append_new _ rfl _ _ 23 rfl w10t.heap.size 5 .u8 1 Tryd.underlying23 info8 _ [] rfl (New.nil _ _ _ _) _ _ _ Y rfl LY.out.symm sO.cells (by rw [LY.out]; simp; omega) (by rw [LY.out]; simp; omega) (Nat.le_refl _) ?_)
  intro v_ w11 n_ g_ _
  have hb : Below w10t.heap.size w10t w11 := (Below.refl _ _).grown g_ (Nat.le_refl _) fun g hg => by simp [Value.ownBlock] at hg
  have n_' : New w10t.heap.size .u8 5 w11 v_ Y := by simpa using n_
  obtain ⟨aY, kY, rfl, xY⟩ := n_'.sl
  have ltS := pS.lt
  have fY : ∀ b off, aY = some ⟨b, off, none⟩ → gS < b := fun b off ha => by have := n_'.far b off ha; omega
  clear ltS
  rw [LY.out]
  replace pN := pN.keep hb
  replace pE := pE.keep hb
  replace pM := pM.keep hb
  replace pS := pS.keep hb
  replace hB := hB.trans (hb.mono hB.size)
  clear n_ n_' g_ hb sO
  obtain ⟨C2, hC2⟩ : ∃ C, C = vcode h n e Y s := ⟨_, rfl⟩
  have pv2 := pv C2 Y s LY.out HS.out.symm hC2 uY us
  have rv2 := rv C2 Y s LY.out HS.out.symm hC2 uY us
  have ne2 : (C2 != C2) = false := by simp
  clear hC2 pv1 rv1 ne1
  go_wp2_with fail
  refine (pv2 _ _ _ _ _ _ _ _ _ (bk _ _ _ _ pN) (bk _ _ _ _ pE) (bk _ _ _ _ pM) (bk _ _ _ _ pS) hB).mono ?_; rintro e w12 ⟨rfl, hb⟩
  replace pN := pN.keep hb
  replace pE := pE.keep hb
  replace pM := pM.keep hb
  replace pS := pS.keep hb
  replace xY := xY.below hb
  replace hB := hB.trans (hb.mono hB.size)
  clear hb
  go_wp2_with fail
  refine (rv2 _ _ _ _ _ xY (ss.below hB) hB).mono ?_; rintro e w13 ⟨rfl, hb⟩
  replace pN := pN.keep hb
  replace pE := pE.keep hb
  replace pM := pM.keep hb
  replace pS := pS.keep hb
  replace xY := xY.below hb
  replace hB := hB.trans (hb.mono hB.size)
  clear hb
  go_wp2_with fail
  refine (stl _ Y _ _ _ _ _ LY.out pM xY).mono ?_; rintro e w14 ⟨rfl, hb⟩
  replace pN := pN.keep hb
  replace pE := pE.keep hb
  replace pM := pM.keep hb
  replace pS := pS.keep hb
  replace xY := xY.below hb
  replace hB := hB.trans (hb.mono hB.size)
  clear hb
  by_cases hpar : (zm : Int) % 2 = 1
  · have hp1 : ((zm : Int) % 2 == 1) = true := by simp [hpar]
    clear hpar
    go_wp2_with fail
    go_ret
    exact ⟨rfl, hB⟩
  · have hp1 : ((zm : Int) % 2 == 1) = false := by simp [hpar]
    clear hpar
    have tc := turned_c gS cS s marks _ pS us
    unfold TurnedPost at tc
    rw [← HS.out] at tc
    go_wp2_with fail
    refine tc.mono ?_; rintro e_ w14t ⟨rfl, T, hTl, uT, qS, hgr⟩
    replace pN := pN.grown hgr (by simp; omega)
    replace pE := pE.grown hgr (by simp; omega)
    replace pM := pM.grown hgr (by simp; omega)
    replace xY := xY.grown' hgr (fun b off ha hp e => by have := fY b off ha; have := Option.some.inj e; omega)
    replace hB := hB.grown hgr hB.size (by simp; omega)
    clear pS hgr tc
    have pS := qS
    clear qS
    have LT := Lib.hid hTl
    clear hTl
    have sO := bk _ _ _ _ pS
    go_wp2_with (at_builtin; refine wpList_append_new _ rfl _ _ 23 rfl w14t.heap.size 5 .u8 1 Tryd.underlying23 info8 _ [] rfl (New.nil _ _ _ _) _ _ _ T rfl LT.out.symm sO.cells (by rw [LT.out]; simp; omega) (by rw [LT.out]; simp; omega) (Nat.le_refl _) ?_)
    intro v_ w15 n_ g_ _
    have hb : Below w14t.heap.size w14t w15 := (Below.refl _ _).grown g_ (Nat.le_refl _) fun g hg => by simp [Value.ownBlock] at hg
    have n_' : New w14t.heap.size .u8 5 w15 v_ T := by simpa using n_
    obtain ⟨aT, kT, rfl, xT⟩ := n_'.sl
    have ltS := pS.lt
    have fT : ∀ b off, aT = some ⟨b, off, none⟩ → gS < b := fun b off ha => by have := n_'.far b off ha; omega
    clear ltS
    rw [LT.out]
    replace pN := pN.keep hb
    replace pE := pE.keep hb
    replace pM := pM.keep hb
    replace pS := pS.keep hb
    replace xY := xY.below hb
    replace hB := hB.trans (hb.mono hB.size)
    clear n_ n_' g_ hb sO
    obtain ⟨C3, hC3⟩ : ∃ C, C = vcode h n e Y T := ⟨_, rfl⟩
    have pv3 := pv C3 Y T LY.out LT.out hC3 uY uT
    have rv3 := rv C3 Y T LY.out LT.out hC3 uY uT
    have eq3 : (C3 == C3) = true := by simp
    clear hC3 pv2 rv2 ne2
    go_wp2_with fail
    refine (pv3 _ _ _ _ _ _ _ _ _ (bk _ _ _ _ pN) (bk _ _ _ _ pE) (bk _ _ _ _ pM) (bk _ _ _ _ pS) hB).mono ?_; rintro e w16 ⟨rfl, hb⟩
    replace pN := pN.keep hb
    replace pE := pE.keep hb
    replace pM := pM.keep hb
    replace pS := pS.keep hb
    replace xY := xY.below hb
    replace xT := xT.below hb
    replace hB := hB.trans (hb.mono hB.size)
    clear hb
    go_wp2_with fail
    refine (rv3 _ _ _ _ _ xY xT hB).mono ?_; rintro e w17 ⟨rfl, hb⟩
    replace pN := pN.keep hb
    replace pE := pE.keep hb
    replace pM := pM.keep hb
    replace pS := pS.keep hb
    replace xY := xY.below hb
    replace xT := xT.below hb
    replace hB := hB.trans (hb.mono hB.size)
    clear hb
    go_wp2_with fail
    refine (stl _ n _ _ _ _ _ HN.out.symm pN (sn.below hB)).mono ?_; rintro e w18 ⟨rfl, hb⟩
    replace pN := pN.keep hb
    replace pE := pE.keep hb
    replace pM := pM.keep hb
    replace pS := pS.keep hb
    replace xY := xY.below hb
    replace xT := xT.below hb
    replace hB := hB.trans (hb.mono hB.size)
    clear hb
    go_wp2_with fail
    refine (stl _ e _ _ _ _ _ HE.out.symm pE (se.below hB)).mono ?_; rintro e w19 ⟨rfl, hb⟩
    replace pN := pN.keep hb
    replace pE := pE.keep hb
    replace pM := pM.keep hb
    replace pS := pS.keep hb
    replace xY := xY.below hb
    replace xT := xT.below hb
    replace hB := hB.trans (hb.mono hB.size)
    clear hb
    go_wp2_with fail
    refine (stl _ Y _ _ _ _ _ LY.out pM xY).mono ?_; rintro e w20 ⟨rfl, hb⟩
    replace pN := pN.keep hb
    replace pE := pE.keep hb
    replace pM := pM.keep hb
    replace pS := pS.keep hb
    replace xY := xY.below hb
    replace xT := xT.below hb
    replace hB := hB.trans (hb.mono hB.size)
    clear hb
    go_wp2_with fail
    refine (stl _ T _ _ _ _ _ LT.out pS xT).mono ?_; rintro e w21 ⟨rfl, hb⟩
    replace pN := pN.keep hb
    replace pE := pE.keep hb
    replace pM := pM.keep hb
    replace pS := pS.keep hb
    replace xY := xY.below hb
    replace xT := xT.below hb
    replace hB := hB.trans (hb.mono hB.size)
    clear hb
    go_wp2_with fail
    go_ret
    exact ⟨rfl, hB⟩
end Go.Proofs.YtbmdifeanocahaaDoor
