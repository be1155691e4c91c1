import Derived.Test.YtlolkighnnedfaaDoorZ39
/- signetlaw13.EdComplete by its contract. (Printed by gen_edcomplete.py.) -/
set_option linter.unusedVariables false
set_option linter.unusedSimpArgs false
namespace Go.Proofs.YtlolkighnnedfaaDoor
open Go.RowKit Go.Sg

set_option maxHeartbeats 4000000 in
set_option maxRecDepth 20000 in
theorem EdComplete_c {a0 a1 a2 : Option Addr} {c0 c1 c2 : Nat} {x0 x1 x2 : List Int} {w : World} (s0 : Sl .u32 w a0 c0 x0) (s1 : Sl .u32 w a1 c1 x1) (s2 : Sl .u8 w a2 c2 x2) (u0 : U32 x0) (u1 : U32 x1) (u2 : U8 x2) (hz : x0.length + x1.length + x2.length ≤ 1048576) (tP : TabAt w 0 limbP) (tD : TabAt w 3 limbD) (tI : TabAt w 4 limbI) (tL : TabAt w 2 limbL) (tB : BaseT w 1) (ht : ShaTabs w) :
    Calls Tryd.prog 11 #[.slice a0 x0.length c0, .slice a1 x1.length c1, .slice a2 x2.length c2] w (fun e w' => e = .returned (.bool true) ∧ Below w.heap.size w w') := by
  have nA : NumAt w (.slice a0 x0.length c0) (val x0) := ⟨_, _, x0, rfl, s0, u0, rfl, by omega⟩
  have nR : NumAt w (.slice a1 x1.length c1) (val x1) := ⟨_, _, x1, rfl, s1, u1, rfl, by omega⟩
  obtain ⟨A, hA⟩ : ∃ A, A = val x0 := ⟨_, rfl⟩
  obtain ⟨R, hR⟩ : ∃ R, R = val x1 := ⟨_, rfl⟩
  rw [← hA] at nA
  rw [← hR] at nR
  obtain ⟨n0, hn0⟩ : ∃ n, n = x0.length := ⟨_, rfl⟩
  obtain ⟨n1, hn1⟩ : ∃ n, n = x1.length := ⟨_, rfl⟩
  have l2 : Hid (x2.length ≤ 1048576) := Lib.hid (by omega)
  rw [← hn0] at nA ⊢
  rw [← hn1] at nR ⊢
  clear hA hR hn0 hn1 hz s0 s1 u0 u1
  obtain ⟨bA, hbA⟩ : ∃ b, b = bl A := ⟨_, rfl⟩
  obtain ⟨bR, hbR⟩ : ∃ b, b = bl R := ⟨_, rfl⟩
  have BA := fun W (h : Below w.heap.size w W) => bits_v (nA.below h)
  have BR := fun W (h : Below w.heap.size w W) => bits_v (nR.below h)
  rw [← hbA] at BA
  rw [← hbR] at BR
  have HA := Lib.hid hbA
  have HR := Lib.hid hbR
  clear hbA hbR
  by_cases lA : bA ≤ 1024
  · skip
    by_cases lR : bR ≤ 1024
    · skip
      have HAb : Hid (bl A ≤ 1024) := Lib.hid (by rw [← HA.out]; exact lA)
      have hdA : decide ((1024 : Int) < (bA : Int)) = false := decide_eq_false (by omega)
      have HRb : Hid (bl R ≤ 1024) := Lib.hid (by rw [← HR.out]; exact lR)
      have hdR : decide ((1024 : Int) < (bR : Int)) = false := decide_eq_false (by omega)
      clear lA lR
      go_enter Tryd.func11, Tryd.ntmps11
      have hB := Below.refl w.heap.size w
      go_wp2_with fail
      refine (awake_c w (tP.below hB) (tD.below hB) (tI.below hB) (tL.below hB) (tB.below hB) (ht.below hB)).mono ?_; rintro e_ w1 ⟨rfl, hb⟩
      replace hB := hB.trans (hb.mono hB.size)
      clear hb
      go_wp2_with fail
      refine (Order_c w1 (tL.below hB)).mono ?_; rintro e_ w2 ⟨g24_, rfl, _, hkq_, hb⟩
      have c24 := CanAt.rw8 hkq_ lim8_L
      replace hB := hB.trans (hb.mono hB.size)
      clear hb hkq_
      go_wp2_with fail
      refine (Base_c w2 (tB.below hB)).mono ?_; rintro e_ w3 ⟨v27, rfl, hn, hb⟩
      obtain ⟨gb27x, gb27y, rfl, _, _, _, kbx_, kby_⟩ := hn
      have c27x : CanAt _ _ eB.1.val := CanAt.rw8 kbx_ lim8_X
      have c27y : CanAt _ _ eB.2.val := CanAt.rw8 kby_ lim8_Y
      clear kbx_ kby_
      replace hB := hB.trans (hb.mono hB.size)
      replace c24 := c24.below hb
      clear hb
      have h_ := mul_ok (P := eB) (nA.below hB) ⟨_, _, rfl, c27x.num, c27y.num⟩ eB_on HAb.out (tP.below hB) (tD.below hB)
      go_wp2_with fail
      refine (h_).mono ?_; rintro e_ w4 ⟨v28, rfl, hn, hb⟩
      obtain ⟨v28x, v28y, rfl, h1_, h2_, _⟩ := hn
      have c28x := h1_.fp
      have c28y := h2_.fp
      obtain ⟨av28x, nv28x, pv28x, rfl⟩ := c28x.sliced
      obtain ⟨av28y, nv28y, pv28y, rfl⟩ := c28y.sliced
      clear h1_ h2_
      replace hB := hB.trans (hb.mono hB.size)
      replace c24 := c24.below hb
      replace c27x := c27x.below hb
      replace c27y := c27y.below hb
      clear hb h_
      go_wp2_with (refine wpList_alloc_agg rfl 29 rfl [(.slice none 0 0), (.slice none 0 0), (.bool false)] 3 (by kernel_rfl) ?_)
      intro w5 hk_ hbA_
      obtain ⟨g8, hg_⟩ : ∃ g, g = w4.heap.size := ⟨_, rfl⟩
      rw [← hg_] at hk_ ⊢
      have HGE_ : Hid (w4.heap.size ≤ g8) := Lib.hid (by rw [hg_]; exact Nat.le_refl _)
      clear hg_
      go_wp2_with (refine wpList_store_agg rfl 29 _ _ rfl g8 29 [(.slice none 0 0), (.slice none 0 0), (.bool false)] [(.slice av28x nv28x pv28x), (.slice av28y nv28y pv28y), (.bool false)] rfl rfl hk_ size_pt (by intro v_ hv_; simp only [List.mem_cons, List.not_mem_nil, or_false] at hv_; rcases hv_ with rfl | rfl | rfl <;> first | rfl | exact c28x.one_cell | exact c28y.one_cell) rfl ?_)
      intro w6 hn_ hgr_
      have hk8 := hn_
      have hb := hbA_.grown hgr_ hbA_.size (by intro k_ hk_; cases hk_; exact HGE_.out)
      clear hn_ hgr_ hk_ hbA_ HGE_
      replace hB := hB.trans (hb.mono hB.size)
      replace c24 := c24.below hb
      replace c27x := c27x.below hb
      replace c27y := c27y.below hb
      replace c28x := c28x.below hb
      replace c28y := c28y.below hb
      clear hb
      go_wp2_with fail
      refine (Base_c w6 (tB.below hB)).mono ?_; rintro e_ w7 ⟨v33, rfl, hn, hb⟩
      obtain ⟨gb33x, gb33y, rfl, _, _, _, kbx_, kby_⟩ := hn
      have c33x : CanAt _ _ eB.1.val := CanAt.rw8 kbx_ lim8_X
      have c33y : CanAt _ _ eB.2.val := CanAt.rw8 kby_ lim8_Y
      clear kbx_ kby_
      replace hB := hB.trans (hb.mono hB.size)
      replace c24 := c24.below hb
      replace c27x := c27x.below hb
      replace c27y := c27y.below hb
      replace c28x := c28x.below hb
      replace c28y := c28y.below hb
      replace hk8 := hk8.keep hb
      clear hb
      have h_ := mul_ok (P := eB) (nR.below hB) ⟨_, _, rfl, c33x.num, c33y.num⟩ eB_on HRb.out (tP.below hB) (tD.below hB)
      go_wp2_with fail
      refine (h_).mono ?_; rintro e_ w8 ⟨v34, rfl, hn, hb⟩
      obtain ⟨v34x, v34y, rfl, h1_, h2_, _⟩ := hn
      have c34x := h1_.fp
      have c34y := h2_.fp
      obtain ⟨av34x, nv34x, pv34x, rfl⟩ := c34x.sliced
      obtain ⟨av34y, nv34y, pv34y, rfl⟩ := c34y.sliced
      clear h1_ h2_
      replace hB := hB.trans (hb.mono hB.size)
      replace c24 := c24.below hb
      replace c27x := c27x.below hb
      replace c27y := c27y.below hb
      replace c28x := c28x.below hb
      replace c28y := c28y.below hb
      replace hk8 := hk8.keep hb
      replace c33x := c33x.below hb
      replace c33y := c33y.below hb
      clear hb h_
      go_wp2_with (refine wpList_alloc_agg rfl 29 rfl [(.slice none 0 0), (.slice none 0 0), (.bool false)] 3 (by kernel_rfl) ?_)
      intro w9 hk_ hbA_
      obtain ⟨g10, hg_⟩ : ∃ g, g = w8.heap.size := ⟨_, rfl⟩
      rw [← hg_] at hk_ ⊢
      have HGE_ : Hid (w8.heap.size ≤ g10) := Lib.hid (by rw [hg_]; exact Nat.le_refl _)
      clear hg_
      go_wp2_with (refine wpList_store_agg rfl 29 _ _ rfl g10 29 [(.slice none 0 0), (.slice none 0 0), (.bool false)] [(.slice av34x nv34x pv34x), (.slice av34y nv34y pv34y), (.bool false)] rfl rfl hk_ size_pt (by intro v_ hv_; simp only [List.mem_cons, List.not_mem_nil, or_false] at hv_; rcases hv_ with rfl | rfl | rfl <;> first | rfl | exact c34x.one_cell | exact c34y.one_cell) rfl ?_)
      intro w10 hn_ hgr_
      have hk10 := hn_
      have hb := hbA_.grown hgr_ hbA_.size (by intro k_ hk_; cases hk_; exact HGE_.out)
      clear hn_ hgr_ hk_ hbA_ HGE_
      replace hB := hB.trans (hb.mono hB.size)
      replace c24 := c24.below hb
      replace c27x := c27x.below hb
      replace c27y := c27y.below hb
      replace c28x := c28x.below hb
      replace c28y := c28y.below hb
      replace hk8 := hk8.keep hb
      replace c33x := c33x.below hb
      replace c33y := c33y.below hb
      replace c34x := c34x.below hb
      replace c34y := c34y.below hb
      clear hb
      go_wp2_with fail
      refine (BA _ hB).mono ?_; rintro e_ w11 ⟨rfl, rfl⟩
      go_wp2_with fail
      refine (BR _ hB).mono ?_; rintro e_ w11 ⟨rfl, rfl⟩
      have h_ := enc_ok ⟨_, _, rfl, c28x.num, c28y.num⟩ (eMul_on eB_on A) (tP.below hB) (tD.below hB)
      unfold EncOk at h_
      obtain ⟨EA, hE_⟩ : ∃ E, E = encB (eMul A eB) := ⟨_, rfl⟩
      rw [← hE_] at h_
      have UA : U8 EA := by rw [hE_]; exact encB_u8 _
      have LA : Hid (EA.length = 32) := Lib.hid (by rw [hE_]; exact encB_len _)
      have HEA := Lib.hid hE_
      clear hE_
      go_wp2_with (refine wpList_load_agg rfl 29 _ rfl g8 rfl _ [(.slice av28x nv28x pv28x), (.slice av28y nv28y pv28y), (.bool false)] _ hk8 Tryd.underlying29 rfl size_pt ?_)
      refine (h_).mono ?_; rintro e_ w11 ⟨v61, rfl, hn, hb⟩
      obtain ⟨eA, qA, rfl, sEA⟩ := hn.sl
      clear hn
      replace hB := hB.trans (hb.mono hB.size)
      replace c24 := c24.below hb
      replace c27x := c27x.below hb
      replace c27y := c27y.below hb
      replace c28x := c28x.below hb
      replace c28y := c28y.below hb
      replace hk8 := hk8.keep hb
      replace c33x := c33x.below hb
      replace c33y := c33y.below hb
      replace c34x := c34x.below hb
      replace c34y := c34y.below hb
      replace hk10 := hk10.keep hb
      clear hb h_
      have h_ := enc_ok ⟨_, _, rfl, c34x.num, c34y.num⟩ (eMul_on eB_on R) (tP.below hB) (tD.below hB)
      unfold EncOk at h_
      obtain ⟨ER, hE_⟩ : ∃ E, E = encB (eMul R eB) := ⟨_, rfl⟩
      rw [← hE_] at h_
      have UR : U8 ER := by rw [hE_]; exact encB_u8 _
      have LR : Hid (ER.length = 32) := Lib.hid (by rw [hE_]; exact encB_len _)
      have HER := Lib.hid hE_
      clear hE_
      go_wp2_with (refine wpList_load_agg rfl 29 _ rfl g10 rfl _ [(.slice av34x nv34x pv34x), (.slice av34y nv34y pv34y), (.bool false)] _ hk10 Tryd.underlying29 rfl size_pt ?_)
      refine (h_).mono ?_; rintro e_ w12 ⟨v66, rfl, hn, hb⟩
      obtain ⟨eR, qR, rfl, sER⟩ := hn.sl
      clear hn
      replace hB := hB.trans (hb.mono hB.size)
      replace c24 := c24.below hb
      replace c27x := c27x.below hb
      replace c27y := c27y.below hb
      replace c28x := c28x.below hb
      replace c28y := c28y.below hb
      replace hk8 := hk8.keep hb
      replace c33x := c33x.below hb
      replace c33y := c33y.below hb
      replace c34x := c34x.below hb
      replace c34y := c34y.below hb
      replace hk10 := hk10.keep hb
      replace sEA := sEA.below hb
      clear hb h_
      have h_ := challenge13_c sER sEA (s2.below hB) UR UA u2 (by rw [LR.out, LA.out]; have := l2.out; omega) (tL.below hB) (ht.below hB)
      obtain ⟨K, hK_⟩ : ∃ K, K = chal ER EA x2 := ⟨_, rfl⟩
      rw [← hK_] at h_
      have HK := Lib.hid hK_
      have HKb : Hid (bigB K = false) := Lib.hid (bigB_bl (bl_below (by rw [hK_]; exact chal_lt _ _ _)))
      clear hK_
      go_wp2_with fail
      refine (h_).mono ?_; rintro e_ w13 ⟨v86, rfl, c86, hb⟩
      replace hB := hB.trans (hb.mono hB.size)
      replace c24 := c24.below hb
      replace c27x := c27x.below hb
      replace c27y := c27y.below hb
      replace c28x := c28x.below hb
      replace c28y := c28y.below hb
      replace hk8 := hk8.keep hb
      replace c33x := c33x.below hb
      replace c33y := c33y.below hb
      replace c34x := c34x.below hb
      replace c34y := c34y.below hb
      replace hk10 := hk10.keep hb
      replace sEA := sEA.below hb
      replace sER := sER.below hb
      clear hb h_
      have h_ := mulL_v c86.num (nA.below hB) c24.num HKb.out (bigB_bl (by have := HA.out; have := HAb.out; omega))
      obtain ⟨S0, hS_⟩ : ∃ S, S = K * A % eL := ⟨_, rfl⟩
      rw [← hS_] at h_
      have HS0 := Lib.hid hS_
      have HS0b : Hid (bigB S0 = false) := Lib.hid (bigB_bl (bl_below (by rw [hS_]; exact Nat.mod_lt _ eL_pos)))
      clear hS_
      go_wp2_with fail
      refine (h_).mono ?_; rintro e_ w14 ⟨v91, rfl, c91, hb⟩
      replace hB := hB.trans (hb.mono hB.size)
      replace c24 := c24.below hb
      replace c27x := c27x.below hb
      replace c27y := c27y.below hb
      replace c28x := c28x.below hb
      replace c28y := c28y.below hb
      replace hk8 := hk8.keep hb
      replace c33x := c33x.below hb
      replace c33y := c33y.below hb
      replace c34x := c34x.below hb
      replace c34y := c34y.below hb
      replace hk10 := hk10.keep hb
      replace sEA := sEA.below hb
      replace sER := sER.below hb
      replace c86 := c86.below hb
      clear hb h_
      have h_ := addL_v c91.num (nR.below hB) c24.num HS0b.out (bigB_bl (by have := HR.out; have := HRb.out; omega))
      obtain ⟨S, hS_⟩ : ∃ S, S = (S0 + R) % eL := ⟨_, rfl⟩
      rw [← hS_] at h_
      have HS := Lib.hid hS_
      have HSl : Hid (S < eL) := Lib.hid (by rw [hS_]; exact Nat.mod_lt _ eL_pos)
      clear hS_
      go_wp2_with fail
      refine (h_).mono ?_; rintro e_ w15 ⟨v98, rfl, c98, hb⟩
      replace hB := hB.trans (hb.mono hB.size)
      replace c24 := c24.below hb
      replace c27x := c27x.below hb
      replace c27y := c27y.below hb
      replace c28x := c28x.below hb
      replace c28y := c28y.below hb
      replace hk8 := hk8.keep hb
      replace c33x := c33x.below hb
      replace c33y := c33y.below hb
      replace c34x := c34x.below hb
      replace c34y := c34y.below hb
      replace hk10 := hk10.keep hb
      replace sEA := sEA.below hb
      replace sER := sER.below hb
      replace c86 := c86.below hb
      replace c91 := c91.below hb
      clear hb h_
      have c24_0 := c24
      have c27x_0 := c27x
      have c27y_0 := c27y
      have c28x_0 := c28x
      have c28y_0 := c28y
      have hk8_0 := hk8
      have c33x_0 := c33x
      have c33y_0 := c33y
      have c34x_0 := c34x
      have c34y_0 := c34y
      have hk10_0 := hk10
      have sEA_0 := sEA
      have sER_0 := sER
      have c86_0 := c86
      have c91_0 := c91
      have c98_0 := c98
      have hB_0 := hB
      have hF := Below.refl w15.heap.size w15
      go_wp2_with (at_builtin; refine wpList_append_new _ rfl _ _ 22 rfl w15.heap.size 5 .u8 1 Tryd.underlying22 info8a _ [] rfl (New.nil _ _ _ _) _ _ _ ER rfl rfl sER.cells (by rw [LR.out]; simp) (by rw [LR.out]; simp) (Nat.le_refl _) ?_)
      intro y1 w16 n1 hg_ _
      have hb : Below w15.heap.size w15 w16 := (Below.refl _ _).grown hg_ (Nat.le_refl _) fun g hg => by simp [Value.ownBlock] at hg
      replace n1 : New w15.heap.size .u8 5 w16 y1 ER := n1
      clear hg_
      replace hB := hB.trans (hb.mono hB.size)
      replace c24 := c24.below hb
      replace c27x := c27x.below hb
      replace c27y := c27y.below hb
      replace c28x := c28x.below hb
      replace c28y := c28y.below hb
      replace hk8 := hk8.keep hb
      replace c33x := c33x.below hb
      replace c33y := c33y.below hb
      replace c34x := c34x.below hb
      replace c34y := c34y.below hb
      replace hk10 := hk10.keep hb
      replace sEA := sEA.below hb
      replace sER := sER.below hb
      replace c86 := c86.below hb
      replace c91 := c91.below hb
      replace c98 := c98.below hb
      replace hF := hF.trans (hb.mono hF.size)
      clear hb
      have h_ := bytes13_c c98.num (below_256 HSl.out)
      obtain ⟨B, hB_⟩ : ∃ B, B = leB S := ⟨_, rfl⟩
      rw [← hB_] at h_
      have HBB := Lib.hid hB_
      have UB : U8 B := by rw [hB_]; exact leB_u8 _
      have LB : Hid (B.length = 32) := Lib.hid (by rw [hB_]; exact leB_len _)
      clear hB_
      go_wp2_with fail
      refine h_.mono ?_; rintro e_ w17 ⟨y2, rfl, hn, hb⟩
      obtain ⟨e2, q2, rfl, sB⟩ := hn.sl
      clear h_ hn
      replace hB := hB.trans (hb.mono hB.size)
      replace c24 := c24.below hb
      replace c27x := c27x.below hb
      replace c27y := c27y.below hb
      replace c28x := c28x.below hb
      replace c28y := c28y.below hb
      replace hk8 := hk8.keep hb
      replace c33x := c33x.below hb
      replace c33y := c33y.below hb
      replace c34x := c34x.below hb
      replace c34y := c34y.below hb
      replace hk10 := hk10.keep hb
      replace sEA := sEA.below hb
      replace sER := sER.below hb
      replace c86 := c86.below hb
      replace c91 := c91.below hb
      replace c98 := c98.below hb
      replace hF := hF.trans (hb.mono hF.size)
      replace n1 := n1.keep hb
      clear hb
      go_wp2_with (at_builtin; refine wpList_append_new _ rfl _ _ 22 rfl w15.heap.size 5 .u8 1 Tryd.underlying22 info8a _ ER rfl n1 _ _ _ B rfl rfl sB.cells (by rw [LR.out, LB.out]; omega) (by rw [LR.out, LB.out]; omega) hF.size ?_)
      intro y3 w18 n3 hg_ _
      have hb : Below w15.heap.size w15 w18 := hF.grown hg_ hF.size fun g hg => (n1.lt g hg).1
      clear hg_ n1 sB
      try clear hF
      try clear n1
      try clear sB
      replace c24 := c24_0
      clear c24_0
      replace c27x := c27x_0
      clear c27x_0
      replace c27y := c27y_0
      clear c27y_0
      replace c28x := c28x_0
      clear c28x_0
      replace c28y := c28y_0
      clear c28y_0
      replace hk8 := hk8_0
      clear hk8_0
      replace c33x := c33x_0
      clear c33x_0
      replace c33y := c33y_0
      clear c33y_0
      replace c34x := c34x_0
      clear c34x_0
      replace c34y := c34y_0
      clear c34y_0
      replace hk10 := hk10_0
      clear hk10_0
      replace sEA := sEA_0
      clear sEA_0
      replace sER := sER_0
      clear sER_0
      replace c86 := c86_0
      clear c86_0
      replace c91 := c91_0
      clear c91_0
      replace c98 := c98_0
      clear c98_0
      replace hB := hB_0
      clear hB_0
      replace hB := hB.trans (hb.mono hB.size)
      replace c24 := c24.below hb
      replace c27x := c27x.below hb
      replace c27y := c27y.below hb
      replace c28x := c28x.below hb
      replace c28y := c28y.below hb
      replace hk8 := hk8.keep hb
      replace c33x := c33x.below hb
      replace c33y := c33y.below hb
      replace c34x := c34x.below hb
      replace c34y := c34y.below hb
      replace hk10 := hk10.keep hb
      replace sEA := sEA.below hb
      replace sER := sER.below hb
      replace c86 := c86.below hb
      replace c91 := c91.below hb
      replace c98 := c98.below hb
      clear hb
      obtain ⟨X, hX_⟩ : ∃ X, X = ER ++ B := ⟨_, rfl⟩
      rw [← hX_] at n3
      have LX : Hid (X.length ≤ 1048576) := Lib.hid (by rw [hX_, List.length_append, LR.out, LB.out]; omega)
      have UX : U8 X := by rw [hX_]; exact UR.append (by omega) UB
      have HC : Hid (edCode EA x2 X = 0) := Lib.hid (by rw [hX_, HBB.out]; exact code_signed A R x2 HEA.out HER.out HK.out (by rw [HS.out, HS0.out]))
      clear hX_
      obtain ⟨e3, q3, rfl, sX⟩ := n3.sl
      clear n3
      have h_ := Verify_c sEA (s2.below hB) sX UA u2 UX (by rw [LA.out]; omega) (by have := l2.out; omega) (by have := LX.out; omega) (tP.below hB) (tD.below hB) (tI.below hB) (tL.below hB) (tB.below hB) (ht.below hB)
      rw [HC.out] at h_
      clear sX
      go_wp2_with fail
      refine h_.mono ?_; rintro e_ w19 ⟨rfl, hb⟩
      clear h_ HC LX UX HBB LB UB
      replace hB := hB.trans (hb.mono hB.size)
      replace c24 := c24.below hb
      replace c27x := c27x.below hb
      replace c27y := c27y.below hb
      replace c28x := c28x.below hb
      replace c28y := c28y.below hb
      replace hk8 := hk8.keep hb
      replace c33x := c33x.below hb
      replace c33y := c33y.below hb
      replace c34x := c34x.below hb
      replace c34y := c34y.below hb
      replace hk10 := hk10.keep hb
      replace sEA := sEA.below hb
      replace sER := sER.below hb
      replace c86 := c86.below hb
      replace c91 := c91.below hb
      replace c98 := c98.below hb
      clear hb
      have c24_0 := c24
      have c27x_0 := c27x
      have c27y_0 := c27y
      have c28x_0 := c28x
      have c28y_0 := c28y
      have hk8_0 := hk8
      have c33x_0 := c33x
      have c33y_0 := c33y
      have c34x_0 := c34x
      have c34y_0 := c34y
      have hk10_0 := hk10
      have sEA_0 := sEA
      have sER_0 := sER
      have c86_0 := c86
      have c91_0 := c91
      have c98_0 := c98
      have hB_0 := hB
      have hF := Below.refl w19.heap.size w19
      go_wp2_with (at_builtin; refine wpList_append_new _ rfl _ _ 22 rfl w19.heap.size 5 .u8 1 Tryd.underlying22 info8a _ [] rfl (New.nil _ _ _ _) _ _ _ ER rfl rfl sER.cells (by rw [LR.out]; simp) (by rw [LR.out]; simp) (Nat.le_refl _) ?_)
      intro y1 w20 n1 hg_ _
      have hb : Below w19.heap.size w19 w20 := (Below.refl _ _).grown hg_ (Nat.le_refl _) fun g hg => by simp [Value.ownBlock] at hg
      replace n1 : New w19.heap.size .u8 5 w20 y1 ER := n1
      clear hg_
      replace hB := hB.trans (hb.mono hB.size)
      replace c24 := c24.below hb
      replace c27x := c27x.below hb
      replace c27y := c27y.below hb
      replace c28x := c28x.below hb
      replace c28y := c28y.below hb
      replace hk8 := hk8.keep hb
      replace c33x := c33x.below hb
      replace c33y := c33y.below hb
      replace c34x := c34x.below hb
      replace c34y := c34y.below hb
      replace hk10 := hk10.keep hb
      replace sEA := sEA.below hb
      replace sER := sER.below hb
      replace c86 := c86.below hb
      replace c91 := c91.below hb
      replace c98 := c98.below hb
      replace hF := hF.trans (hb.mono hF.size)
      clear hb
      have h_ := add_v c98.num c24.num
      go_wp2_with fail
      refine h_.mono ?_; rintro e_ w21 ⟨vm, rfl, hn, hb⟩
      have cm := hn.can (k := 9) ⟨by rw [R_pow_256]; exact Nat.lt_of_lt_of_le (below_two HSl.out) (Nat.pow_le_pow_right (by decide) (by omega))⟩ (by omega)
      clear h_ hn
      replace hB := hB.trans (hb.mono hB.size)
      replace c24 := c24.below hb
      replace c27x := c27x.below hb
      replace c27y := c27y.below hb
      replace c28x := c28x.below hb
      replace c28y := c28y.below hb
      replace hk8 := hk8.keep hb
      replace c33x := c33x.below hb
      replace c33y := c33y.below hb
      replace c34x := c34x.below hb
      replace c34y := c34y.below hb
      replace hk10 := hk10.keep hb
      replace sEA := sEA.below hb
      replace sER := sER.below hb
      replace c86 := c86.below hb
      replace c91 := c91.below hb
      replace c98 := c98.below hb
      replace hF := hF.trans (hb.mono hF.size)
      replace n1 := n1.keep hb
      clear hb
      have h_ := bytes13_c cm.num (below_two HSl.out)
      obtain ⟨B, hB_⟩ : ∃ B, B = leB (S + eL) := ⟨_, rfl⟩
      rw [← hB_] at h_
      have HBB := Lib.hid hB_
      have UB : U8 B := by rw [hB_]; exact leB_u8 _
      have LB : Hid (B.length = 32) := Lib.hid (by rw [hB_]; exact leB_len _)
      clear hB_
      go_wp2_with fail
      refine h_.mono ?_; rintro e_ w22 ⟨y2, rfl, hn, hb⟩
      obtain ⟨e2, q2, rfl, sB⟩ := hn.sl
      clear h_ hn
      replace hB := hB.trans (hb.mono hB.size)
      replace c24 := c24.below hb
      replace c27x := c27x.below hb
      replace c27y := c27y.below hb
      replace c28x := c28x.below hb
      replace c28y := c28y.below hb
      replace hk8 := hk8.keep hb
      replace c33x := c33x.below hb
      replace c33y := c33y.below hb
      replace c34x := c34x.below hb
      replace c34y := c34y.below hb
      replace hk10 := hk10.keep hb
      replace sEA := sEA.below hb
      replace sER := sER.below hb
      replace c86 := c86.below hb
      replace c91 := c91.below hb
      replace c98 := c98.below hb
      replace hF := hF.trans (hb.mono hF.size)
      replace n1 := n1.keep hb
      replace cm := cm.below hb
      clear hb
      go_wp2_with (at_builtin; refine wpList_append_new _ rfl _ _ 22 rfl w19.heap.size 5 .u8 1 Tryd.underlying22 info8a _ ER rfl n1 _ _ _ B rfl rfl sB.cells (by rw [LR.out, LB.out]; omega) (by rw [LR.out, LB.out]; omega) hF.size ?_)
      intro y3 w23 n3 hg_ _
      have hb : Below w19.heap.size w19 w23 := hF.grown hg_ hF.size fun g hg => (n1.lt g hg).1
      clear hg_ n1 sB
      try clear hF
      try clear n1
      try clear cm
      try clear sB
      replace c24 := c24_0
      clear c24_0
      replace c27x := c27x_0
      clear c27x_0
      replace c27y := c27y_0
      clear c27y_0
      replace c28x := c28x_0
      clear c28x_0
      replace c28y := c28y_0
      clear c28y_0
      replace hk8 := hk8_0
      clear hk8_0
      replace c33x := c33x_0
      clear c33x_0
      replace c33y := c33y_0
      clear c33y_0
      replace c34x := c34x_0
      clear c34x_0
      replace c34y := c34y_0
      clear c34y_0
      replace hk10 := hk10_0
      clear hk10_0
      replace sEA := sEA_0
      clear sEA_0
      replace sER := sER_0
      clear sER_0
      replace c86 := c86_0
      clear c86_0
      replace c91 := c91_0
      clear c91_0
      replace c98 := c98_0
      clear c98_0
      replace hB := hB_0
      clear hB_0
      replace hB := hB.trans (hb.mono hB.size)
      replace c24 := c24.below hb
      replace c27x := c27x.below hb
      replace c27y := c27y.below hb
      replace c28x := c28x.below hb
      replace c28y := c28y.below hb
      replace hk8 := hk8.keep hb
      replace c33x := c33x.below hb
      replace c33y := c33y.below hb
      replace c34x := c34x.below hb
      replace c34y := c34y.below hb
      replace hk10 := hk10.keep hb
      replace sEA := sEA.below hb
      replace sER := sER.below hb
      replace c86 := c86.below hb
      replace c91 := c91.below hb
      replace c98 := c98.below hb
      clear hb
      obtain ⟨X, hX_⟩ : ∃ X, X = ER ++ B := ⟨_, rfl⟩
      rw [← hX_] at n3
      have LX : Hid (X.length ≤ 1048576) := Lib.hid (by rw [hX_, List.length_append, LR.out, LB.out]; omega)
      have UX : U8 X := by rw [hX_]; exact UR.append (by omega) UB
      have HC : Hid (edCode EA x2 X = 91) := Lib.hid (by rw [hX_, HBB.out]; exact code_more A R x2 HEA.out HER.out HSl.out)
      clear hX_
      obtain ⟨e3, q3, rfl, sX⟩ := n3.sl
      clear n3
      have h_ := Verify_c sEA (s2.below hB) sX UA u2 UX (by rw [LA.out]; omega) (by have := l2.out; omega) (by have := LX.out; omega) (tP.below hB) (tD.below hB) (tI.below hB) (tL.below hB) (tB.below hB) (ht.below hB)
      rw [HC.out] at h_
      clear sX
      go_wp2_with fail
      refine h_.mono ?_; rintro e_ w24 ⟨rfl, hb⟩
      clear h_ HC LX UX HBB LB UB
      replace hB := hB.trans (hb.mono hB.size)
      replace c24 := c24.below hb
      replace c27x := c27x.below hb
      replace c27y := c27y.below hb
      replace c28x := c28x.below hb
      replace c28y := c28y.below hb
      replace hk8 := hk8.keep hb
      replace c33x := c33x.below hb
      replace c33y := c33y.below hb
      replace c34x := c34x.below hb
      replace c34y := c34y.below hb
      replace hk10 := hk10.keep hb
      replace sEA := sEA.below hb
      replace sER := sER.below hb
      replace c86 := c86.below hb
      replace c91 := c91.below hb
      replace c98 := c98.below hb
      clear hb
      go_wp2_with fail
      go_ret
      exact ⟨by first | done | rfl | simp, hB⟩
    · skip
      have HAb : Hid (bl A ≤ 1024) := Lib.hid (by rw [← HA.out]; exact lA)
      have hdA : decide ((1024 : Int) < (bA : Int)) = false := decide_eq_false (by omega)
      have HRb : Hid (¬ bl R ≤ 1024) := Lib.hid (by rw [← HR.out]; exact lR)
      have hdR : decide ((1024 : Int) < (bR : Int)) = true := decide_eq_true (by omega)
      clear lA lR
      go_enter Tryd.func11, Tryd.ntmps11
      have hB := Below.refl w.heap.size w
      go_wp2_with fail
      refine (awake_c w (tP.below hB) (tD.below hB) (tI.below hB) (tL.below hB) (tB.below hB) (ht.below hB)).mono ?_; rintro e_ w1 ⟨rfl, hb⟩
      replace hB := hB.trans (hb.mono hB.size)
      clear hb
      go_wp2_with fail
      refine (Order_c w1 (tL.below hB)).mono ?_; rintro e_ w2 ⟨g24_, rfl, _, hkq_, hb⟩
      have c24 := CanAt.rw8 hkq_ lim8_L
      replace hB := hB.trans (hb.mono hB.size)
      clear hb hkq_
      go_wp2_with fail
      refine (Base_c w2 (tB.below hB)).mono ?_; rintro e_ w3 ⟨v27, rfl, hn, hb⟩
      obtain ⟨gb27x, gb27y, rfl, _, _, _, kbx_, kby_⟩ := hn
      have c27x : CanAt _ _ eB.1.val := CanAt.rw8 kbx_ lim8_X
      have c27y : CanAt _ _ eB.2.val := CanAt.rw8 kby_ lim8_Y
      clear kbx_ kby_
      replace hB := hB.trans (hb.mono hB.size)
      replace c24 := c24.below hb
      clear hb
      have h_ := mul_ok (P := eB) (nA.below hB) ⟨_, _, rfl, c27x.num, c27y.num⟩ eB_on HAb.out (tP.below hB) (tD.below hB)
      go_wp2_with fail
      refine (h_).mono ?_; rintro e_ w4 ⟨v28, rfl, hn, hb⟩
      obtain ⟨v28x, v28y, rfl, h1_, h2_, _⟩ := hn
      have c28x := h1_.fp
      have c28y := h2_.fp
      obtain ⟨av28x, nv28x, pv28x, rfl⟩ := c28x.sliced
      obtain ⟨av28y, nv28y, pv28y, rfl⟩ := c28y.sliced
      clear h1_ h2_
      replace hB := hB.trans (hb.mono hB.size)
      replace c24 := c24.below hb
      replace c27x := c27x.below hb
      replace c27y := c27y.below hb
      clear hb h_
      go_wp2_with (refine wpList_alloc_agg rfl 29 rfl [(.slice none 0 0), (.slice none 0 0), (.bool false)] 3 (by kernel_rfl) ?_)
      intro w5 hk_ hbA_
      obtain ⟨g8, hg_⟩ : ∃ g, g = w4.heap.size := ⟨_, rfl⟩
      rw [← hg_] at hk_ ⊢
      have HGE_ : Hid (w4.heap.size ≤ g8) := Lib.hid (by rw [hg_]; exact Nat.le_refl _)
      clear hg_
      go_wp2_with (refine wpList_store_agg rfl 29 _ _ rfl g8 29 [(.slice none 0 0), (.slice none 0 0), (.bool false)] [(.slice av28x nv28x pv28x), (.slice av28y nv28y pv28y), (.bool false)] rfl rfl hk_ size_pt (by intro v_ hv_; simp only [List.mem_cons, List.not_mem_nil, or_false] at hv_; rcases hv_ with rfl | rfl | rfl <;> first | rfl | exact c28x.one_cell | exact c28y.one_cell) rfl ?_)
      intro w6 hn_ hgr_
      have hk8 := hn_
      have hb := hbA_.grown hgr_ hbA_.size (by intro k_ hk_; cases hk_; exact HGE_.out)
      clear hn_ hgr_ hk_ hbA_ HGE_
      replace hB := hB.trans (hb.mono hB.size)
      replace c24 := c24.below hb
      replace c27x := c27x.below hb
      replace c27y := c27y.below hb
      replace c28x := c28x.below hb
      replace c28y := c28y.below hb
      clear hb
      go_wp2_with fail
      refine (Base_c w6 (tB.below hB)).mono ?_; rintro e_ w7 ⟨v33, rfl, hn, hb⟩
      obtain ⟨gb33x, gb33y, rfl, _, _, _, kbx_, kby_⟩ := hn
      have c33x : CanAt _ _ eB.1.val := CanAt.rw8 kbx_ lim8_X
      have c33y : CanAt _ _ eB.2.val := CanAt.rw8 kby_ lim8_Y
      clear kbx_ kby_
      replace hB := hB.trans (hb.mono hB.size)
      replace c24 := c24.below hb
      replace c27x := c27x.below hb
      replace c27y := c27y.below hb
      replace c28x := c28x.below hb
      replace c28y := c28y.below hb
      replace hk8 := hk8.keep hb
      clear hb
      have h_ := mul_large (P := eB) (nR.below hB) ⟨_, _, rfl, c33x.num, c33y.num⟩ eB_on HRb.out (tP.below hB) (tD.below hB)
      unfold NoPt noPt at h_
      go_wp2_with fail
      refine (h_).mono ?_; rintro e_ w8 ⟨rfl, hb⟩
      replace hB := hB.trans (hb.mono hB.size)
      replace c24 := c24.below hb
      replace c27x := c27x.below hb
      replace c27y := c27y.below hb
      replace c28x := c28x.below hb
      replace c28y := c28y.below hb
      replace hk8 := hk8.keep hb
      replace c33x := c33x.below hb
      replace c33y := c33y.below hb
      clear hb h_
      go_wp2_with (refine wpList_alloc_agg rfl 29 rfl [(.slice none 0 0), (.slice none 0 0), (.bool false)] 3 (by kernel_rfl) ?_)
      intro w9 hk_ hbA_
      obtain ⟨g10, hg_⟩ : ∃ g, g = w8.heap.size := ⟨_, rfl⟩
      rw [← hg_] at hk_ ⊢
      have HGE_ : Hid (w8.heap.size ≤ g10) := Lib.hid (by rw [hg_]; exact Nat.le_refl _)
      clear hg_
      go_wp2_with (refine wpList_store_agg rfl 29 _ _ rfl g10 29 [(.slice none 0 0), (.slice none 0 0), (.bool false)] [(.slice none 0 0), (.slice none 0 0), (.bool false)] rfl rfl hk_ size_pt (by intro v_ hv_; simp only [List.mem_cons, List.not_mem_nil, or_false] at hv_; rcases hv_ with rfl | rfl | rfl <;> rfl) rfl ?_)
      intro w10 hn_ hgr_
      have hk10 := hn_
      have hb := hbA_.grown hgr_ hbA_.size (by intro k_ hk_; cases hk_; exact HGE_.out)
      clear hn_ hgr_ hk_ hbA_ HGE_
      replace hB := hB.trans (hb.mono hB.size)
      replace c24 := c24.below hb
      replace c27x := c27x.below hb
      replace c27y := c27y.below hb
      replace c28x := c28x.below hb
      replace c28y := c28y.below hb
      replace hk8 := hk8.keep hb
      replace c33x := c33x.below hb
      replace c33y := c33y.below hb
      clear hb
      go_wp2_with fail
      refine (BA _ hB).mono ?_; rintro e_ w11 ⟨rfl, rfl⟩
      go_wp2_with fail
      refine (BR _ hB).mono ?_; rintro e_ w11 ⟨rfl, rfl⟩
      go_wp2_with fail
      refine (BA _ hB).mono ?_; rintro e_ w11 ⟨rfl, rfl⟩
      go_wp2_with fail
      refine (BR _ hB).mono ?_; rintro e_ w11 ⟨rfl, rfl⟩
      go_wp2_with fail
      go_ret
      exact ⟨by first | done | rfl | simp, hB⟩
  · skip
    by_cases lR : bR ≤ 1024
    · skip
      have HAb : Hid (¬ bl A ≤ 1024) := Lib.hid (by rw [← HA.out]; exact lA)
      have hdA : decide ((1024 : Int) < (bA : Int)) = true := decide_eq_true (by omega)
      have HRb : Hid (bl R ≤ 1024) := Lib.hid (by rw [← HR.out]; exact lR)
      have hdR : decide ((1024 : Int) < (bR : Int)) = false := decide_eq_false (by omega)
      clear lA lR
      go_enter Tryd.func11, Tryd.ntmps11
      have hB := Below.refl w.heap.size w
      go_wp2_with fail
      refine (awake_c w (tP.below hB) (tD.below hB) (tI.below hB) (tL.below hB) (tB.below hB) (ht.below hB)).mono ?_; rintro e_ w1 ⟨rfl, hb⟩
      replace hB := hB.trans (hb.mono hB.size)
      clear hb
      go_wp2_with fail
      refine (Order_c w1 (tL.below hB)).mono ?_; rintro e_ w2 ⟨g24_, rfl, _, hkq_, hb⟩
      have c24 := CanAt.rw8 hkq_ lim8_L
      replace hB := hB.trans (hb.mono hB.size)
      clear hb hkq_
      go_wp2_with fail
      refine (Base_c w2 (tB.below hB)).mono ?_; rintro e_ w3 ⟨v27, rfl, hn, hb⟩
      obtain ⟨gb27x, gb27y, rfl, _, _, _, kbx_, kby_⟩ := hn
      have c27x : CanAt _ _ eB.1.val := CanAt.rw8 kbx_ lim8_X
      have c27y : CanAt _ _ eB.2.val := CanAt.rw8 kby_ lim8_Y
      clear kbx_ kby_
      replace hB := hB.trans (hb.mono hB.size)
      replace c24 := c24.below hb
      clear hb
      have h_ := mul_large (P := eB) (nA.below hB) ⟨_, _, rfl, c27x.num, c27y.num⟩ eB_on HAb.out (tP.below hB) (tD.below hB)
      unfold NoPt noPt at h_
      go_wp2_with fail
      refine (h_).mono ?_; rintro e_ w4 ⟨rfl, hb⟩
      replace hB := hB.trans (hb.mono hB.size)
      replace c24 := c24.below hb
      replace c27x := c27x.below hb
      replace c27y := c27y.below hb
      clear hb h_
      go_wp2_with (refine wpList_alloc_agg rfl 29 rfl [(.slice none 0 0), (.slice none 0 0), (.bool false)] 3 (by kernel_rfl) ?_)
      intro w5 hk_ hbA_
      obtain ⟨g8, hg_⟩ : ∃ g, g = w4.heap.size := ⟨_, rfl⟩
      rw [← hg_] at hk_ ⊢
      have HGE_ : Hid (w4.heap.size ≤ g8) := Lib.hid (by rw [hg_]; exact Nat.le_refl _)
      clear hg_
      go_wp2_with (refine wpList_store_agg rfl 29 _ _ rfl g8 29 [(.slice none 0 0), (.slice none 0 0), (.bool false)] [(.slice none 0 0), (.slice none 0 0), (.bool false)] rfl rfl hk_ size_pt (by intro v_ hv_; simp only [List.mem_cons, List.not_mem_nil, or_false] at hv_; rcases hv_ with rfl | rfl | rfl <;> rfl) rfl ?_)
      intro w6 hn_ hgr_
      have hk8 := hn_
      have hb := hbA_.grown hgr_ hbA_.size (by intro k_ hk_; cases hk_; exact HGE_.out)
      clear hn_ hgr_ hk_ hbA_ HGE_
      replace hB := hB.trans (hb.mono hB.size)
      replace c24 := c24.below hb
      replace c27x := c27x.below hb
      replace c27y := c27y.below hb
      clear hb
      go_wp2_with fail
      refine (Base_c w6 (tB.below hB)).mono ?_; rintro e_ w7 ⟨v33, rfl, hn, hb⟩
      obtain ⟨gb33x, gb33y, rfl, _, _, _, kbx_, kby_⟩ := hn
      have c33x : CanAt _ _ eB.1.val := CanAt.rw8 kbx_ lim8_X
      have c33y : CanAt _ _ eB.2.val := CanAt.rw8 kby_ lim8_Y
      clear kbx_ kby_
      replace hB := hB.trans (hb.mono hB.size)
      replace c24 := c24.below hb
      replace c27x := c27x.below hb
      replace c27y := c27y.below hb
      replace hk8 := hk8.keep hb
      clear hb
      have h_ := mul_ok (P := eB) (nR.below hB) ⟨_, _, rfl, c33x.num, c33y.num⟩ eB_on HRb.out (tP.below hB) (tD.below hB)
      go_wp2_with fail
      refine (h_).mono ?_; rintro e_ w8 ⟨v34, rfl, hn, hb⟩
      obtain ⟨v34x, v34y, rfl, h1_, h2_, _⟩ := hn
      have c34x := h1_.fp
      have c34y := h2_.fp
      obtain ⟨av34x, nv34x, pv34x, rfl⟩ := c34x.sliced
      obtain ⟨av34y, nv34y, pv34y, rfl⟩ := c34y.sliced
      clear h1_ h2_
      replace hB := hB.trans (hb.mono hB.size)
      replace c24 := c24.below hb
      replace c27x := c27x.below hb
      replace c27y := c27y.below hb
      replace hk8 := hk8.keep hb
      replace c33x := c33x.below hb
      replace c33y := c33y.below hb
      clear hb h_
      go_wp2_with (refine wpList_alloc_agg rfl 29 rfl [(.slice none 0 0), (.slice none 0 0), (.bool false)] 3 (by kernel_rfl) ?_)
      intro w9 hk_ hbA_
      obtain ⟨g10, hg_⟩ : ∃ g, g = w8.heap.size := ⟨_, rfl⟩
      rw [← hg_] at hk_ ⊢
      have HGE_ : Hid (w8.heap.size ≤ g10) := Lib.hid (by rw [hg_]; exact Nat.le_refl _)
      clear hg_
      go_wp2_with (refine wpList_store_agg rfl 29 _ _ rfl g10 29 [(.slice none 0 0), (.slice none 0 0), (.bool false)] [(.slice av34x nv34x pv34x), (.slice av34y nv34y pv34y), (.bool false)] rfl rfl hk_ size_pt (by intro v_ hv_; simp only [List.mem_cons, List.not_mem_nil, or_false] at hv_; rcases hv_ with rfl | rfl | rfl <;> first | rfl | exact c34x.one_cell | exact c34y.one_cell) rfl ?_)
      intro w10 hn_ hgr_
      have hk10 := hn_
      have hb := hbA_.grown hgr_ hbA_.size (by intro k_ hk_; cases hk_; exact HGE_.out)
      clear hn_ hgr_ hk_ hbA_ HGE_
      replace hB := hB.trans (hb.mono hB.size)
      replace c24 := c24.below hb
      replace c27x := c27x.below hb
      replace c27y := c27y.below hb
      replace hk8 := hk8.keep hb
      replace c33x := c33x.below hb
      replace c33y := c33y.below hb
      replace c34x := c34x.below hb
      replace c34y := c34y.below hb
      clear hb
      go_wp2_with fail
      refine (BA _ hB).mono ?_; rintro e_ w11 ⟨rfl, rfl⟩
      go_wp2_with fail
      refine (BA _ hB).mono ?_; rintro e_ w11 ⟨rfl, rfl⟩
      go_wp2_with fail
      refine (BR _ hB).mono ?_; rintro e_ w11 ⟨rfl, rfl⟩
      go_wp2_with fail
      go_ret
      exact ⟨by first | done | rfl | simp, hB⟩
    · skip
      have HAb : Hid (¬ bl A ≤ 1024) := Lib.hid (by rw [← HA.out]; exact lA)
      have hdA : decide ((1024 : Int) < (bA : Int)) = true := decide_eq_true (by omega)
      have HRb : Hid (¬ bl R ≤ 1024) := Lib.hid (by rw [← HR.out]; exact lR)
      have hdR : decide ((1024 : Int) < (bR : Int)) = true := decide_eq_true (by omega)
      clear lA lR
      go_enter Tryd.func11, Tryd.ntmps11
      have hB := Below.refl w.heap.size w
      go_wp2_with fail
      refine (awake_c w (tP.below hB) (tD.below hB) (tI.below hB) (tL.below hB) (tB.below hB) (ht.below hB)).mono ?_; rintro e_ w1 ⟨rfl, hb⟩
      replace hB := hB.trans (hb.mono hB.size)
      clear hb
      go_wp2_with fail
      refine (Order_c w1 (tL.below hB)).mono ?_; rintro e_ w2 ⟨g24_, rfl, _, hkq_, hb⟩
      have c24 := CanAt.rw8 hkq_ lim8_L
      replace hB := hB.trans (hb.mono hB.size)
      clear hb hkq_
      go_wp2_with fail
      refine (Base_c w2 (tB.below hB)).mono ?_; rintro e_ w3 ⟨v27, rfl, hn, hb⟩
      obtain ⟨gb27x, gb27y, rfl, _, _, _, kbx_, kby_⟩ := hn
      have c27x : CanAt _ _ eB.1.val := CanAt.rw8 kbx_ lim8_X
      have c27y : CanAt _ _ eB.2.val := CanAt.rw8 kby_ lim8_Y
      clear kbx_ kby_
      replace hB := hB.trans (hb.mono hB.size)
      replace c24 := c24.below hb
      clear hb
      have h_ := mul_large (P := eB) (nA.below hB) ⟨_, _, rfl, c27x.num, c27y.num⟩ eB_on HAb.out (tP.below hB) (tD.below hB)
      unfold NoPt noPt at h_
      go_wp2_with fail
      refine (h_).mono ?_; rintro e_ w4 ⟨rfl, hb⟩
      replace hB := hB.trans (hb.mono hB.size)
      replace c24 := c24.below hb
      replace c27x := c27x.below hb
      replace c27y := c27y.below hb
      clear hb h_
      go_wp2_with (refine wpList_alloc_agg rfl 29 rfl [(.slice none 0 0), (.slice none 0 0), (.bool false)] 3 (by kernel_rfl) ?_)
      intro w5 hk_ hbA_
      obtain ⟨g8, hg_⟩ : ∃ g, g = w4.heap.size := ⟨_, rfl⟩
      rw [← hg_] at hk_ ⊢
      have HGE_ : Hid (w4.heap.size ≤ g8) := Lib.hid (by rw [hg_]; exact Nat.le_refl _)
      clear hg_
      go_wp2_with (refine wpList_store_agg rfl 29 _ _ rfl g8 29 [(.slice none 0 0), (.slice none 0 0), (.bool false)] [(.slice none 0 0), (.slice none 0 0), (.bool false)] rfl rfl hk_ size_pt (by intro v_ hv_; simp only [List.mem_cons, List.not_mem_nil, or_false] at hv_; rcases hv_ with rfl | rfl | rfl <;> rfl) rfl ?_)
      intro w6 hn_ hgr_
      have hk8 := hn_
      have hb := hbA_.grown hgr_ hbA_.size (by intro k_ hk_; cases hk_; exact HGE_.out)
      clear hn_ hgr_ hk_ hbA_ HGE_
      replace hB := hB.trans (hb.mono hB.size)
      replace c24 := c24.below hb
      replace c27x := c27x.below hb
      replace c27y := c27y.below hb
      clear hb
      go_wp2_with fail
      refine (Base_c w6 (tB.below hB)).mono ?_; rintro e_ w7 ⟨v33, rfl, hn, hb⟩
      obtain ⟨gb33x, gb33y, rfl, _, _, _, kbx_, kby_⟩ := hn
      have c33x : CanAt _ _ eB.1.val := CanAt.rw8 kbx_ lim8_X
      have c33y : CanAt _ _ eB.2.val := CanAt.rw8 kby_ lim8_Y
      clear kbx_ kby_
      replace hB := hB.trans (hb.mono hB.size)
      replace c24 := c24.below hb
      replace c27x := c27x.below hb
      replace c27y := c27y.below hb
      replace hk8 := hk8.keep hb
      clear hb
      have h_ := mul_large (P := eB) (nR.below hB) ⟨_, _, rfl, c33x.num, c33y.num⟩ eB_on HRb.out (tP.below hB) (tD.below hB)
      unfold NoPt noPt at h_
      go_wp2_with fail
      refine (h_).mono ?_; rintro e_ w8 ⟨rfl, hb⟩
      replace hB := hB.trans (hb.mono hB.size)
      replace c24 := c24.below hb
      replace c27x := c27x.below hb
      replace c27y := c27y.below hb
      replace hk8 := hk8.keep hb
      replace c33x := c33x.below hb
      replace c33y := c33y.below hb
      clear hb h_
      go_wp2_with (refine wpList_alloc_agg rfl 29 rfl [(.slice none 0 0), (.slice none 0 0), (.bool false)] 3 (by kernel_rfl) ?_)
      intro w9 hk_ hbA_
      obtain ⟨g10, hg_⟩ : ∃ g, g = w8.heap.size := ⟨_, rfl⟩
      rw [← hg_] at hk_ ⊢
      have HGE_ : Hid (w8.heap.size ≤ g10) := Lib.hid (by rw [hg_]; exact Nat.le_refl _)
      clear hg_
      go_wp2_with (refine wpList_store_agg rfl 29 _ _ rfl g10 29 [(.slice none 0 0), (.slice none 0 0), (.bool false)] [(.slice none 0 0), (.slice none 0 0), (.bool false)] rfl rfl hk_ size_pt (by intro v_ hv_; simp only [List.mem_cons, List.not_mem_nil, or_false] at hv_; rcases hv_ with rfl | rfl | rfl <;> rfl) rfl ?_)
      intro w10 hn_ hgr_
      have hk10 := hn_
      have hb := hbA_.grown hgr_ hbA_.size (by intro k_ hk_; cases hk_; exact HGE_.out)
      clear hn_ hgr_ hk_ hbA_ HGE_
      replace hB := hB.trans (hb.mono hB.size)
      replace c24 := c24.below hb
      replace c27x := c27x.below hb
      replace c27y := c27y.below hb
      replace hk8 := hk8.keep hb
      replace c33x := c33x.below hb
      replace c33y := c33y.below hb
      clear hb
      go_wp2_with fail
      refine (BA _ hB).mono ?_; rintro e_ w11 ⟨rfl, rfl⟩
      go_wp2_with fail
      refine (BA _ hB).mono ?_; rintro e_ w11 ⟨rfl, rfl⟩
      go_wp2_with fail
      refine (BR _ hB).mono ?_; rintro e_ w11 ⟨rfl, rfl⟩
      go_wp2_with fail
      go_ret
      exact ⟨by first | done | rfl | simp, hB⟩
end Go.Proofs.YtlolkighnnedfaaDoor
