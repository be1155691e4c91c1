import Derived.Test.YtlolkighnnedfaaDoorZ39
import Derived.Deep.DeepCutAuto
import Derived.Deep.CutBlock
/- signetlaw13.EdMuls by its contract. (Printed by gen_edmuls.py.) -/
set_option linter.unusedVariables false
set_option linter.unusedSimpArgs false
namespace Go.Proofs.YtlolkighnnedfaaDoor
open Go.RowKit Go.Sg
theorem fone_val : (1 : Fp).val = 1 := by decide +kernel
theorem fzero_val : (0 : Fp).val = 0 := by decide +kernel
theorem mulA_yes {P : Pt} (h : OnC P) {k : Nat} (hk : bl k ≤ 1024) : mulA k P.1.val P.2.val false = ptA (eMul k P) := by unfold mulA; rw [ptOf_of h]; exact if_pos hk
theorem mulA_not {P : Pt} (h : OnC P) {k : Nat} (hk : ¬ bl k ≤ 1024) : mulA k P.1.val P.2.val false = noA 10 := by unfold mulA; rw [ptOf_of h]; exact if_neg hk
/-- A variable that holds two numbers as a point. -/
def PtVarN (w0 : World) (X Y : Nat) (p : Value) (wx : World) : Prop := ∃ g vx vy, p = .pointer (some ⟨g, 0, none⟩) ∧ Rw wx g 29 [vx, vy, .bool false] ∧ CanAt wx vx X ∧ CanAt wx vy Y ∧ w0.heap.size ≤ g ∧ Below w0.heap.size w0 wx

set_option maxHeartbeats 4000000 in
set_option maxRecDepth 20000 in
theorem EdMuls_c {a0 a1 a2 : Option Addr} {c0 c1 c2 : Nat} {x0 x1 x2 : List Int} {w : World} (s0 : Sl .u8 w a0 c0 x0) (s1 : Sl .u32 w a1 c1 x1) (s2 : Sl .u32 w a2 c2 x2) (u0 : U8 x0) (u1 : U32 x1) (u2 : U32 x2) (hz : x0.length + x1.length + x2.length ≤ 1048576) (tP : TabAt w 0 limbP) (tD : TabAt w 3 limbD) (tI : TabAt w 4 limbI) (tL : TabAt w 2 limbL) (tB : BaseT w 1) (ht : ShaTabs w) :
  Calls Tryd.prog 10 #[.slice a0 x0.length c0, .slice a1 x1.length c1, .slice a2 x2.length c2] w (fun e w' => e = .returned (.bool true) ∧ Below w.heap.size w w') := by
 have nK : NumAt w (.slice a1 x1.length c1) (val x1) := ⟨_, _, x1, rfl, s1, u1, rfl, by omega⟩
 have nL : NumAt w (.slice a2 x2.length c2) (val x2) := ⟨_, _, x2, rfl, s2, u2, rfl, by omega⟩
 have slim : Lim 2097153 (val x1 + val x2) := (Lim.of_list (k := 1048576) u1 (by omega)).add (Lim.of_list (k := 1048576) u2 (by omega)) |>.mono (by omega)
 obtain ⟨K, hK⟩ : ∃ A, A = val x1 := ⟨_, rfl⟩
 obtain ⟨L, hL⟩ : ∃ R, R = val x2 := ⟨_, rfl⟩
 rw [← hK] at nK
 rw [← hL] at nL
 rw [← hK, ← hL] at slim
 have d0 := fun W (h : Sl .u8 W a0 c0 x0) t1 t2 t3 => Decode_c (w := W) h u0 (by omega) t1 t2 t3
 obtain ⟨n0, hn0⟩ : ∃ n, n = x0.length := ⟨_, rfl⟩
 obtain ⟨n1, hn1⟩ : ∃ n, n = x1.length := ⟨_, rfl⟩
 obtain ⟨n2, hn2⟩ : ∃ n, n = x2.length := ⟨_, rfl⟩
 rw [← hn0] at d0 ⊢
 rw [← hn1] at nK ⊢
 rw [← hn2] at nL ⊢
 clear hK hL hn0 hn1 hn2 hz s1 s2 u1 u2
 obtain ⟨bK, hbK⟩ : ∃ b, b = bl K := ⟨_, rfl⟩
 obtain ⟨bL, hbL⟩ : ∃ b, b = bl L := ⟨_, rfl⟩
 obtain ⟨bS, hbS⟩ : ∃ b, b = bl (K + L) := ⟨_, rfl⟩
 have BK := fun W (h : Below w.heap.size w W) => bits_v (nK.below h)
 have BL := fun W (h : Below w.heap.size w W) => bits_v (nL.below h)
 have AD := fun W (h : Below w.heap.size w W) => add_v (nK.below h) (nL.below h)
 have BS := fun W v (h : NumAt W v (K + L)) => bits_v h
 have hle : bK ≤ bS ∧ bL ≤ bS := by rw [hbK, hbL, hbS]; exact ⟨bl_mono (by omega), bl_mono (by omega)⟩
 rw [← hbK] at BK
 rw [← hbL] at BL
 rw [← hbS] at BS
 obtain ⟨S, hS⟩ : ∃ S, S = K + L := ⟨_, rfl⟩
 have HKb := Lib.hid hbK
 have HLb := Lib.hid hbL
 have HSb : Hid (bS = bl S) := Lib.hid (by rw [hS]; exact hbS)
 have HS := Lib.hid hS
 rw [← hS] at AD BS slim
 clear hbK hbL hbS hS
 go_enter Tryd.func10, Tryd.ntmps10
 have hB := Below.refl w.heap.size w
 go_wp2_with fail
 refine (awake_c w (tP.below hB) (tD.below hB) (tI.below hB) (tL.below hB) (tB.below hB) (ht.below hB)).mono ?_; rintro e_ w1 ⟨rfl, hb⟩
 replace hB := hB.trans (hb.mono hB.size)
 clear hb
 go_wp2_with fail
 refine (Order_c w1 (tL.below hB)).mono ?_; rintro e_ w2 ⟨g24_, rfl, _, hkq_, hb⟩
 have c24 := CanAt.rw8 hkq_ lim8_L
 replace hB := hB.trans (hb.mono hB.size)
 clear hb hkq_
 go_wp2_with fail
 refine (Base_c w2 (tB.below hB)).mono ?_; rintro e_ w3 ⟨v25, rfl, hn, hb⟩
 obtain ⟨gb25x, gb25y, rfl, _, _, _, kbx_, kby_⟩ := hn
 have c25x : CanAt _ _ eB.1.val := CanAt.rw8 kbx_ lim8_X
 have c25y : CanAt _ _ eB.2.val := CanAt.rw8 kby_ lim8_Y
 clear kbx_ kby_
 replace hB := hB.trans (hb.mono hB.size)
 replace c24 := c24.below hb
 clear hb
 have h_ := mul_ok (P := eB) c24.num ⟨_, _, rfl, c25x.num, c25y.num⟩ eB_on bl_eL (tP.below hB) (tD.below hB)
 rw [eL_B] at h_
 go_wp2_with fail
 refine (h_).mono ?_; rintro e_ w4 ⟨v26, rfl, hn, hb⟩
 obtain ⟨v26x, v26y, rfl, h1_, h2_, _⟩ := hn
 have c26x := h1_.fp
 have c26y := h2_.fp
 obtain ⟨av26x, nv26x, pv26x, rfl⟩ := c26x.sliced
 obtain ⟨av26y, nv26y, pv26y, rfl⟩ := c26y.sliced
 clear h1_ h2_
 replace hB := hB.trans (hb.mono hB.size)
 replace c24 := c24.below hb
 replace c25x := c25x.below hb
 replace c25y := c25y.below hb
 clear hb h_
 go_wp2_with (refine wpList_alloc_agg rfl 29 rfl [(.slice none 0 0), (.slice none 0 0), (.bool false)] 3 (by kernel_rfl) ?_)
 intro w5 hk_ hbA_
 obtain ⟨g7, hg_⟩ : ∃ g, g = w4.heap.size := ⟨_, rfl⟩
 rw [← hg_] at hk_ ⊢
 have HGE_ : Hid (w4.heap.size ≤ g7) := Lib.hid (by rw [hg_]; exact Nat.le_refl _)
 clear hg_
 go_wp2_with (refine wpList_store_agg rfl 29 _ _ rfl g7 29 [(.slice none 0 0), (.slice none 0 0), (.bool false)] [(.slice av26x nv26x pv26x), (.slice av26y nv26y pv26y), (.bool false)] rfl rfl hk_ size_pt (by intro v_ hv_; simp only [List.mem_cons, List.not_mem_nil, or_false] at hv_; rcases hv_ with rfl | rfl | rfl <;> first | rfl | exact c26x.one_cell | exact c26y.one_cell) rfl ?_)
 intro w6 hn_ hgr_
 have hk7 := hn_
 have hb := hbA_.grown hgr_ hbA_.size (by intro k_ hk_; cases hk_; exact HGE_.out)
 clear hn_ hgr_ hk_ hbA_ HGE_
 replace hB := hB.trans (hb.mono hB.size)
 replace c24 := c24.below hb
 replace c25x := c25x.below hb
 replace c25y := c25y.below hb
 replace c26x := c26x.below hb
 replace c26y := c26y.below hb
 clear hb
 have hR := Below.refl w6.heap.size w6
 go_upto_region 4 with fail
 go_cut [36] (fun p wx => p = Value.bool false ∧ Below w6.heap.size w6 wx)
 case first =>
  go_wp2_with fail
  refine wp_region_held_drew (S := fun W_ => Rw W_ g7 29 [(.slice av26x nv26x pv26x), (.slice av26y nv26y pv26y), (.bool false)]) (by kernel_rfl) (hk7) (fun hS => ?_)
  have hb := below_drewN (Below.refl w6.heap.size w6) 1
  obtain ⟨w7, hw_⟩ : ∃ x, x = World.drew w6 := ⟨_, rfl⟩
  rw [show World.drewN w6 1 = w7 from hw_.symm] at hb
  rw [← hw_] at hS ⊢
  clear hw_
  replace hB := hB.trans (hb.mono hB.size)
  replace c24 := c24.below hb
  replace c25x := c25x.below hb
  replace c25y := c25y.below hb
  replace c26x := c26x.below hb
  replace c26y := c26y.below hb
  replace hk7 := hk7.keep hb
  replace hR := hR.trans (hb.mono hR.size)
  clear hb
  refine wpAnyH_ready (rs := [0]) (by kernel_rfl) (by simp) ?_
  refine AllReadyH.cons rfl (fun K hK => ?_) AllReadyH.nil
  rw [if_pos (by rfl)]
  simp only [List.getElem_toArray, List.getElem_cons_zero, List.getElem_cons_succ]
  go_simp
  refine hK.out _ _ hS (fun hS => ?_)
  refine wpAnyH_ready (rs := [1]) (by kernel_rfl) (by simp) ?_
  refine AllReadyH.cons rfl (fun K hK => ?_) AllReadyH.nil
  rw [if_pos (by rfl)]
  simp only [List.getElem_toArray, List.getElem_cons_zero, List.getElem_cons_succ]
  go_simp
  refine hK.out _ _ hS (fun hS => ?_)
  refine wpAnyH_ready (rs := [2]) (by kernel_rfl) (by simp) ?_
  refine AllReadyH.cons rfl (fun K hK => ?_) AllReadyH.nil
  rw [if_pos (by rfl)]
  simp only [List.getElem_toArray, List.getElem_cons_zero, List.getElem_cons_succ]
  go_simp
  refine hK.out _ _ hS (fun hS => ?_)
  refine wpAnyH_take (i := 3) (v := .agg #[(.slice av26x nv26x pv26x), (.slice av26y nv26y pv26y), (.bool false)]) rfl (by kernel_rfl) (by kernel_rfl) (by kernel_rfl) (fun _ _ _ h => h) (yieldsIf_load_mid (by rfl) 29 _ rfl g7 0 rfl [(.slice av26x nv26x pv26x), (.slice av26y nv26y pv26y), (.bool false)] _ (fun W_ hW_ => Rw.range hW_ 0 _ fun j_ v_ hv_ => by rwa [Nat.zero_add]) Tryd.underlying29 rfl size_pt) hS ?_
  simp only [List.getElem_toArray, List.getElem_cons_zero, List.getElem_cons_succ, Act.put, List.setIfInBounds_toArray, List.set_cons_zero, List.set_cons_succ]
  refine wpAnyH_ready (rs := [4]) (by kernel_rfl) (by simp) ?_
  refine AllReadyH.cons rfl (fun K hK => ?_) AllReadyH.nil
  rw [if_pos (by rfl)]
  simp only [List.getElem_toArray, List.getElem_cons_zero, List.getElem_cons_succ]
  go_simp
  refine (zero_c w7).mono ?_; rintro e_ w8 ⟨v33, rfl, hp_, hb⟩
  dsimp only
  obtain ⟨z33x, z33y, rfl, c33x, c33y⟩ := hp_
  replace hB := hB.trans (hb.mono hB.size)
  replace c24 := c24.below hb
  replace c25x := c25x.below hb
  replace c25y := c25y.below hb
  replace c26x := c26x.below hb
  replace c26y := c26y.below hb
  replace hk7 := hk7.keep hb
  replace hR := hR.trans (hb.mono hR.size)
  clear hb
  refine hK.out _ _ hk7 (fun hS => ?_)
  have h_ := one_c ⟨_, _, rfl, c26x, c26y⟩ ⟨_, _, rfl, c33x, c33y⟩
  rw [show decide (eO.1.val = eO.1.val ∧ eO.2.val = eO.2.val) = true from decide_eq_true ⟨rfl, rfl⟩] at h_
  refine wpAnyH_ready (rs := [5]) (by kernel_rfl) (by simp) ?_
  refine AllReadyH.cons rfl (fun K hK => ?_) AllReadyH.nil
  rw [if_pos (by rfl)]
  simp only [List.getElem_toArray, List.getElem_cons_zero, List.getElem_cons_succ]
  go_simp
  refine (h_).mono ?_; rintro e_ w9 ⟨rfl, hb⟩
  dsimp only
  replace hB := hB.trans (hb.mono hB.size)
  replace c24 := c24.below hb
  replace c25x := c25x.below hb
  replace c25y := c25y.below hb
  replace c26x := c26x.below hb
  replace c26y := c26y.below hb
  replace hk7 := hk7.keep hb
  replace hR := hR.trans (hb.mono hR.size)
  replace c33x := c33x.below hb
  replace c33y := c33y.below hb
  clear hb h_
  refine hK.out _ _ hk7 (fun hS => ?_)
  refine wpAnyH_ready (rs := [6]) (by kernel_rfl) (by simp) ?_
  refine AllReadyH.cons rfl (fun K hK => ?_) AllReadyH.nil
  rw [if_pos (by rfl)]
  simp only [List.getElem_toArray, List.getElem_cons_zero, List.getElem_cons_succ]
  go_simp
  refine hK.out _ _ hS (fun hS => ?_)
  refine wpAnyH_ready (rs := [7]) (by kernel_rfl) (by simp) ?_
  refine AllReadyH.cons rfl (fun K hK => ?_) AllReadyH.nil
  rw [if_pos (by rfl)]
  simp only [List.getElem_toArray, List.getElem_cons_zero, List.getElem_cons_succ]
  go_simp
  refine hK.out _ _ hS (fun hS => ?_)
  refine wpAnyH_done (by kernel_rfl) ?_ _
  clear hS
  go_wp2_with fail
  go_meet
  exact ⟨rfl, hR⟩
 case rest =>
  obtain ⟨rfl, hb⟩ := hcut
  obtain ⟨w7, rfl⟩ : ∃ x, x = wc := ⟨_, rfl⟩
  replace hB := hB.trans (hb.mono hB.size)
  replace c24 := c24.below hb
  replace c25x := c25x.below hb
  replace c25y := c25y.below hb
  replace c26x := c26x.below hb
  replace c26y := c26y.below hb
  replace hk7 := hk7.keep hb
  clear hb hR
  clear hk7
  clear c26x
  clear c26y
  clear c24
  clear c25x
  clear c25y
  cases hd0 : decB x0 with
  | none =>
   have h_ := d0 _ (s0.below hB) (tP.below hB) (tD.below hB) (tI.below hB)
   rw [hd0] at h_
   unfold DecPost NoPt noPt at h_
   go_wp2_with fail
   refine (h_).mono ?_; rintro e_ w8 ⟨rfl, hb⟩
   replace hB := hB.trans (hb.mono hB.size)
   clear hb h_
   go_wp2_with (refine wpList_alloc_agg rfl 29 rfl [(.slice none 0 0), (.slice none 0 0), (.bool false)] 3 (by kernel_rfl) ?_)
   intro w9 hk_ hbA_
   obtain ⟨g9, hg_⟩ : ∃ g, g = w8.heap.size := ⟨_, rfl⟩
   rw [← hg_] at hk_ ⊢
   have HGE_ : Hid (w8.heap.size ≤ g9) := Lib.hid (by rw [hg_]; exact Nat.le_refl _)
   clear hg_
   go_wp2_with (refine wpList_store_agg rfl 29 _ _ rfl g9 29 [(.slice none 0 0), (.slice none 0 0), (.bool false)] [(.slice none 0 0), (.slice none 0 0), (.bool false)] rfl rfl hk_ size_pt (by intro v_ hv_; simp only [List.mem_cons, List.not_mem_nil, or_false] at hv_; rcases hv_ with rfl | rfl | rfl <;> rfl) rfl ?_)
   intro w10 hn_ hgr_
   have hk9 := hn_
   have hb := hbA_.grown hgr_ hbA_.size (by intro k_ hk_; cases hk_; exact HGE_.out)
   clear hn_ hgr_ hk_ hbA_ HGE_
   replace hB := hB.trans (hb.mono hB.size)
   clear hb
   clear hd0
   go_wp2_with fail
   go_ret
   exact ⟨by first | done | rfl | simp, hB⟩
  | some P =>
   have OP := Lib.hid (decB_on hd0).2
   have h_ := d0 _ (s0.below hB) (tP.below hB) (tD.below hB) (tI.below hB)
   rw [hd0] at h_
   go_wp2_with fail
   refine (h_).mono ?_; rintro e_ w8 ⟨v39, rfl, hn, hb⟩
   obtain ⟨v39x, v39y, rfl, h1_, h2_, _⟩ := hn
   have c39x := h1_.fp
   have c39y := h2_.fp
   obtain ⟨av39x, nv39x, pv39x, rfl⟩ := c39x.sliced
   obtain ⟨av39y, nv39y, pv39y, rfl⟩ := c39y.sliced
   clear h1_ h2_
   replace hB := hB.trans (hb.mono hB.size)
   clear hb h_
   go_wp2_with (refine wpList_alloc_agg rfl 29 rfl [(.slice none 0 0), (.slice none 0 0), (.bool false)] 3 (by kernel_rfl) ?_)
   intro w9 hk_ hbA_
   obtain ⟨g9, hg_⟩ : ∃ g, g = w8.heap.size := ⟨_, rfl⟩
   rw [← hg_] at hk_ ⊢
   have HGE_ : Hid (w8.heap.size ≤ g9) := Lib.hid (by rw [hg_]; exact Nat.le_refl _)
   clear hg_
   go_wp2_with (refine wpList_store_agg rfl 29 _ _ rfl g9 29 [(.slice none 0 0), (.slice none 0 0), (.bool false)] [(.slice av39x nv39x pv39x), (.slice av39y nv39y pv39y), (.bool false)] rfl rfl hk_ size_pt (by intro v_ hv_; simp only [List.mem_cons, List.not_mem_nil, or_false] at hv_; rcases hv_ with rfl | rfl | rfl <;> first | rfl | exact c39x.one_cell | exact c39y.one_cell) rfl ?_)
   intro w10 hn_ hgr_
   have hk9 := hn_
   have hb := hbA_.grown hgr_ hbA_.size (by intro k_ hk_; cases hk_; exact HGE_.out)
   clear hn_ hgr_ hk_ hbA_ HGE_
   replace hB := hB.trans (hb.mono hB.size)
   replace c39x := c39x.below hb
   replace c39y := c39y.below hb
   clear hb
   clear hd0

   obtain ⟨rK, hr_⟩ : ∃ r, r = mulA K P.1.val P.2.val false := ⟨_, rfl⟩
   have smK : Small rK := by rw [hr_]; exact mulA_small ..
   have HrK := Lib.hid hr_.symm
   obtain ⟨cK, hc_⟩ : ∃ c, c = rK.1 := ⟨_, rfl⟩
   have HcK := Lib.hid hc_.symm
   clear hr_ hc_
   obtain ⟨rL, hr_⟩ : ∃ r, r = mulA L P.1.val P.2.val false := ⟨_, rfl⟩
   have smL : Small rL := by rw [hr_]; exact mulA_small ..
   have HrL := Lib.hid hr_.symm
   obtain ⟨cL, hc_⟩ : ∃ c, c = rL.1 := ⟨_, rfl⟩
   have HcL := Lib.hid hc_.symm
   clear hr_ hc_
   obtain ⟨rS, hr_⟩ : ∃ r, r = mulA S P.1.val P.2.val false := ⟨_, rfl⟩
   have smS : Small rS := by rw [hr_]; exact mulA_small ..
   have HrS := Lib.hid hr_.symm
   obtain ⟨cS, hc_⟩ : ∃ c, c = rS.1 := ⟨_, rfl⟩
   have HcS := Lib.hid hc_.symm
   clear hr_ hc_
   have h_ := mul_any (i := false) (nK.below hB) ⟨_, _, rfl, c39x.num, c39y.num⟩ (tP.below hB) (tD.below hB)
   unfold AnsPost at h_
   rw [HrK.out, HcK.out] at h_
   go_wp2_with (refine wpList_load_agg rfl 29 _ rfl g9 rfl _ [(.slice av39x nv39x pv39x), (.slice av39y nv39y pv39y), (.bool false)] _ hk9 Tryd.underlying29 rfl size_pt ?_)
   refine (h_).mono ?_; rintro e_ w11 ⟨v47, rfl, hn, hb⟩
   obtain ⟨v47x, v47y, rfl, h1_, h2_⟩ := hn
   have c47x := h1_.can smK.1 (by omega)
   have c47y := h2_.can smK.2 (by omega)
   obtain ⟨av47x, nv47x, pv47x, rfl⟩ := c47x.sliced
   obtain ⟨av47y, nv47y, pv47y, rfl⟩ := c47y.sliced
   clear h1_ h2_
   replace hB := hB.trans (hb.mono hB.size)
   replace c39x := c39x.below hb
   replace c39y := c39y.below hb
   replace hk9 := hk9.keep hb
   clear hb h_
   go_wp2_with (refine wpList_alloc_agg rfl 29 rfl [(.slice none 0 0), (.slice none 0 0), (.bool false)] 3 (by kernel_rfl) ?_)
   intro w12 hk_ hbA_
   obtain ⟨g10, hg_⟩ : ∃ g, g = w11.heap.size := ⟨_, rfl⟩
   rw [← hg_] at hk_ ⊢
   have HGE_ : Hid (w11.heap.size ≤ g10) := Lib.hid (by rw [hg_]; exact Nat.le_refl _)
   clear hg_
   go_wp2_with (refine wpList_store_agg rfl 29 _ _ rfl g10 29 [(.slice none 0 0), (.slice none 0 0), (.bool false)] [(.slice av47x nv47x pv47x), (.slice av47y nv47y pv47y), (.bool false)] rfl rfl hk_ size_pt (by intro v_ hv_; simp only [List.mem_cons, List.not_mem_nil, or_false] at hv_; rcases hv_ with rfl | rfl | rfl <;> first | rfl | exact c47x.one_cell | exact c47y.one_cell) rfl ?_)
   intro w13 hn_ hgr_
   have hk10 := hn_
   have hb := hbA_.grown hgr_ hbA_.size (by intro k_ hk_; cases hk_; exact HGE_.out)
   clear hn_ hgr_ hk_ hbA_ HGE_
   replace hB := hB.trans (hb.mono hB.size)
   replace c39x := c39x.below hb
   replace c39y := c39y.below hb
   replace hk9 := hk9.keep hb
   replace c47x := c47x.below hb
   replace c47y := c47y.below hb
   clear hb
   have h_ := mul_any (i := false) (nL.below hB) ⟨_, _, rfl, c39x.num, c39y.num⟩ (tP.below hB) (tD.below hB)
   unfold AnsPost at h_
   rw [HrL.out, HcL.out] at h_
   go_wp2_with (refine wpList_load_agg rfl 29 _ rfl g9 rfl _ [(.slice av39x nv39x pv39x), (.slice av39y nv39y pv39y), (.bool false)] _ hk9 Tryd.underlying29 rfl size_pt ?_)
   refine (h_).mono ?_; rintro e_ w14 ⟨v53, rfl, hn, hb⟩
   obtain ⟨v53x, v53y, rfl, h1_, h2_⟩ := hn
   have c53x := h1_.can smL.1 (by omega)
   have c53y := h2_.can smL.2 (by omega)
   obtain ⟨av53x, nv53x, pv53x, rfl⟩ := c53x.sliced
   obtain ⟨av53y, nv53y, pv53y, rfl⟩ := c53y.sliced
   clear h1_ h2_
   replace hB := hB.trans (hb.mono hB.size)
   replace c39x := c39x.below hb
   replace c39y := c39y.below hb
   replace hk9 := hk9.keep hb
   replace c47x := c47x.below hb
   replace c47y := c47y.below hb
   replace hk10 := hk10.keep hb
   clear hb h_
   go_wp2_with (refine wpList_alloc_agg rfl 29 rfl [(.slice none 0 0), (.slice none 0 0), (.bool false)] 3 (by kernel_rfl) ?_)
   intro w15 hk_ hbA_
   obtain ⟨g12, hg_⟩ : ∃ g, g = w14.heap.size := ⟨_, rfl⟩
   rw [← hg_] at hk_ ⊢
   have HGE_ : Hid (w14.heap.size ≤ g12) := Lib.hid (by rw [hg_]; exact Nat.le_refl _)
   clear hg_
   go_wp2_with (refine wpList_store_agg rfl 29 _ _ rfl g12 29 [(.slice none 0 0), (.slice none 0 0), (.bool false)] [(.slice av53x nv53x pv53x), (.slice av53y nv53y pv53y), (.bool false)] rfl rfl hk_ size_pt (by intro v_ hv_; simp only [List.mem_cons, List.not_mem_nil, or_false] at hv_; rcases hv_ with rfl | rfl | rfl <;> first | rfl | exact c53x.one_cell | exact c53y.one_cell) rfl ?_)
   intro w16 hn_ hgr_
   have hk12 := hn_
   have hb := hbA_.grown hgr_ hbA_.size (by intro k_ hk_; cases hk_; exact HGE_.out)
   clear hn_ hgr_ hk_ hbA_ HGE_
   replace hB := hB.trans (hb.mono hB.size)
   replace c39x := c39x.below hb
   replace c39y := c39y.below hb
   replace hk9 := hk9.keep hb
   replace c47x := c47x.below hb
   replace c47y := c47y.below hb
   replace hk10 := hk10.keep hb
   replace c53x := c53x.below hb
   replace c53y := c53y.below hb
   clear hb
   have hR := Below.refl w16.heap.size w16
   go_upto_region 11 with fail
   go_cut [14, 15] (fun p q wx => q = Value.int .i64 cS ∧ PtVarN w16 rS.2.1 rS.2.2 p wx)
   case first =>
    go_wp2_with fail
    refine wp_region_held_drew (S := fun W_ => Rw W_ g9 29 [(.slice av39x nv39x pv39x), (.slice av39y nv39y pv39y), (.bool false)]) (by kernel_rfl) (hk9) (fun hS => ?_)
    have hb := below_drewN (Below.refl w16.heap.size w16) 1
    obtain ⟨w17, hw_⟩ : ∃ x, x = World.drew w16 := ⟨_, rfl⟩
    rw [show World.drewN w16 1 = w17 from hw_.symm] at hb
    rw [← hw_] at hS ⊢
    clear hw_
    replace hB := hB.trans (hb.mono hB.size)
    replace c39x := c39x.below hb
    replace c39y := c39y.below hb
    replace hk9 := hk9.keep hb
    replace c47x := c47x.below hb
    replace c47y := c47y.below hb
    replace hk10 := hk10.keep hb
    replace c53x := c53x.below hb
    replace c53y := c53y.below hb
    replace hk12 := hk12.keep hb
    replace hR := hR.trans (hb.mono hR.size)
    clear hb
    refine wpAnyH_take (i := 0) (v := ?_) rfl (by kernel_rfl) (by kernel_rfl) (by kernel_rfl) (fun _ _ _ h => h) (Or.inl ⟨by rfl, ?_⟩) hS ?_
    rotate_left
    · intro w _; go_simp; try with_reducible rfl
    simp only [List.getElem_toArray, List.getElem_cons_zero, List.getElem_cons_succ, Act.put, List.setIfInBounds_toArray, List.set_cons_zero, List.set_cons_succ]
    refine wpAnyH_take (i := 1) (v := ?_) rfl (by kernel_rfl) (by kernel_rfl) (by kernel_rfl) (fun _ _ _ h => h) (Or.inl ⟨by rfl, ?_⟩) hS ?_
    rotate_left
    · intro w _; go_simp; try with_reducible rfl
    simp only [List.getElem_toArray, List.getElem_cons_zero, List.getElem_cons_succ, Act.put, List.setIfInBounds_toArray, List.set_cons_zero, List.set_cons_succ]
    refine wpAnyH_take (i := 3) (v := .agg #[(.slice av39x nv39x pv39x), (.slice av39y nv39y pv39y), (.bool false)]) rfl (by kernel_rfl) (by kernel_rfl) (by kernel_rfl) (fun _ _ _ h => h) (yieldsIf_load_mid (by rfl) 29 _ rfl g9 0 rfl [(.slice av39x nv39x pv39x), (.slice av39y nv39y pv39y), (.bool false)] _ (fun W_ hW_ => Rw.range hW_ 0 _ fun j_ v_ hv_ => by rwa [Nat.zero_add]) Tryd.underlying29 rfl size_pt) hS ?_
    simp only [List.getElem_toArray, List.getElem_cons_zero, List.getElem_cons_succ, Act.put, List.setIfInBounds_toArray, List.set_cons_zero, List.set_cons_succ]
    refine wpAnyH_ready (rs := [2, 8]) (by kernel_rfl) (by simp) ?_
    refine AllReadyH.cons rfl (fun K hK => ?_) (AllReadyH.cons rfl (fun K hK => ?_) AllReadyH.nil) <;> rw [if_pos (by rfl)] <;> simp only [List.getElem_toArray, List.getElem_cons_zero, List.getElem_cons_succ]
    ·
     go_simp
     refine (AD _ hB).mono ?_; rintro e_ w18 ⟨v59, rfl, hn, hb⟩
     dsimp only
     have n59 := hn.num slim (by omega)
     clear hn
     replace hB := hB.trans (hb.mono hB.size)
     replace c39x := c39x.below hb
     replace c39y := c39y.below hb
     replace hk9 := hk9.keep hb
     replace c47x := c47x.below hb
     replace c47y := c47y.below hb
     replace hk10 := hk10.keep hb
     replace c53x := c53x.below hb
     replace c53y := c53y.below hb
     replace hk12 := hk12.keep hb
     replace hR := hR.trans (hb.mono hR.size)
     clear hb
     refine hK.out _ _ hk9 (fun hS => ?_)
     refine wpAnyH_ready (rs := [4, 8]) (by kernel_rfl) (by simp) ?_
     refine AllReadyH.cons rfl (fun K hK => ?_) (AllReadyH.cons rfl (fun K hK => ?_) AllReadyH.nil) <;> rw [if_pos (by rfl)] <;> simp only [List.getElem_toArray, List.getElem_cons_zero, List.getElem_cons_succ]
     ·
      have h_ := mul_any (i := false) n59 ⟨_, _, rfl, c39x.num, c39y.num⟩ (tP.below hB) (tD.below hB)
      unfold AnsPost at h_
      rw [HrS.out, HcS.out] at h_
      go_simp
      refine (h_).mono ?_; rintro e_ w19 ⟨v61, rfl, hn, hb⟩
      dsimp only
      obtain ⟨v61x, v61y, rfl, h1_, h2_⟩ := hn
      have off_c61x_9 := NatRes.off_new h1_ hk9.lt
      have off_c61x_10 := NatRes.off_new h1_ hk10.lt
      have off_c61x_12 := NatRes.off_new h1_ hk12.lt
      have off_c61y_9 := NatRes.off_new h2_ hk9.lt
      have off_c61y_10 := NatRes.off_new h2_ hk10.lt
      have off_c61y_12 := NatRes.off_new h2_ hk12.lt
      have c61x := h1_.mono (Nat.zero_le _)
      have c61y := h2_.mono (Nat.zero_le _)
      obtain ⟨av61x, nv61x, pv61x, rfl⟩ := (c61x.can smS.1 (by omega)).sliced
      obtain ⟨av61y, nv61y, pv61y, rfl⟩ := (c61y.can smS.2 (by omega)).sliced
      clear h1_ h2_
      replace hB := hB.trans (hb.mono hB.size)
      replace c39x := c39x.below hb
      replace c39y := c39y.below hb
      replace hk9 := hk9.keep hb
      replace c47x := c47x.below hb
      replace c47y := c47y.below hb
      replace hk10 := hk10.keep hb
      replace c53x := c53x.below hb
      replace c53y := c53y.below hb
      replace hk12 := hk12.keep hb
      replace hR := hR.trans (hb.mono hR.size)
      replace n59 := n59.below hb
      clear hb h_
      refine hK.out _ _ hk9 (fun hS => ?_)
      refine wpAnyH_take (i := 5) (v := ?_) rfl (by kernel_rfl) (by kernel_rfl) (by kernel_rfl) (fun _ _ _ h => h) (Or.inl ⟨by rfl, ?_⟩) hS ?_
      rotate_left
      · intro w _; go_simp; try with_reducible rfl
      simp only [List.getElem_toArray, List.getElem_cons_zero, List.getElem_cons_succ, Act.put, List.setIfInBounds_toArray, List.set_cons_zero, List.set_cons_succ]
      refine wpAnyH_take (i := 6) (v := ?_) rfl (by kernel_rfl) (by kernel_rfl) (by kernel_rfl) (fun _ _ _ h => h) (Or.inl ⟨by rfl, ?_⟩) hS ?_
      rotate_left
      · intro w _; go_simp; try with_reducible rfl
      simp only [List.getElem_toArray, List.getElem_cons_zero, List.getElem_cons_succ, Act.put, List.setIfInBounds_toArray, List.set_cons_zero, List.set_cons_succ]
      refine wpAnyH_take (i := 7) (v := ?_) rfl (by kernel_rfl) (by kernel_rfl) (by kernel_rfl) (fun _ _ _ h => h) (Or.inl ⟨by rfl, ?_⟩) hS ?_
      rotate_left
      · intro w _; go_simp; try with_reducible rfl
      simp only [List.getElem_toArray, List.getElem_cons_zero, List.getElem_cons_succ, Act.put, List.setIfInBounds_toArray, List.set_cons_zero, List.set_cons_succ]
      refine wpAnyH_ready (rs := [8]) (by kernel_rfl) (by simp) ?_
      refine AllReadyH.cons rfl (fun K hK => ?_) AllReadyH.nil
      rw [if_pos (by rfl)]
      simp only [List.getElem_toArray, List.getElem_cons_zero, List.getElem_cons_succ]
      refine wp_alloc_agg 29 rfl [(.slice none 0 0), (.slice none 0 0), (.bool false)] 3 (by kernel_rfl) ?_
      intro w20 hk14 hb
      have hz_ := hB.size
      have hR0_ := hR.size
      have lt9_ := hk9.lt
      have lt10_ := hk10.lt
      have lt12_ := hk12.lt
      have off_c61x_14 := NatRes.off_old c61x
      have off_c61y_14 := NatRes.off_old c61y
      replace hB := hB.trans (hb.mono hB.size)
      replace c39x := c39x.below hb
      replace c39y := c39y.below hb
      replace hk9 := hk9.keep hb
      replace c47x := c47x.below hb
      replace c47y := c47y.below hb
      replace hk10 := hk10.keep hb
      replace c53x := c53x.below hb
      replace c53y := c53y.below hb
      replace hk12 := hk12.keep hb
      replace hR := hR.trans (hb.mono hR.size)
      replace n59 := n59.below hb
      replace c61x := c61x.below hb
      replace c61y := c61y.below hb
      clear hb
      obtain ⟨g14, hg_⟩ : ∃ g, g = w19.heap.size := ⟨_, rfl⟩
      rw [← hg_] at hk14 off_c61x_14 off_c61y_14 ⊢
      have HG14 : Hid (w.heap.size ≤ g14) := Lib.hid (by rw [hg_]; exact hz_)
      have NE9_14 : Hid (g9 ≠ g14) := Lib.hid (by rw [hg_]; exact Nat.ne_of_lt lt9_)
      have NE10_14 : Hid (g10 ≠ g14) := Lib.hid (by rw [hg_]; exact Nat.ne_of_lt lt10_)
      have NE12_14 : Hid (g12 ≠ g14) := Lib.hid (by rw [hg_]; exact Nat.ne_of_lt lt12_)
      have HR_ : Hid (w16.heap.size ≤ g14) := Lib.hid (by rw [hg_]; exact hR0_)
      clear hR0_
      clear hg_ hz_ lt9_ lt10_ lt12_
      refine hK.out _ _ hk9 (fun hS => ?_)
      refine wpAnyH_ready (rs := [9]) (by kernel_rfl) (by simp) ?_
      refine AllReadyH.cons rfl (fun K hK => ?_) AllReadyH.nil
      rw [if_pos (by rfl)]
      simp only [List.getElem_toArray, List.getElem_cons_zero, List.getElem_cons_succ]
      refine wp_store_agg 29 _ _ rfl g14 29 [(.slice none 0 0), (.slice none 0 0), (.bool false)] [(.slice av61x nv61x pv61x), (.slice av61y nv61y pv61y), (.bool false)] rfl rfl hk14 size_pt (by intro v_ hv_; simp only [List.mem_cons, List.not_mem_nil, or_false] at hv_; rcases hv_ with rfl | rfl | rfl <;> first | rfl | exact (c61x.can smS.1 (by omega)).one_cell | exact (c61y.can smS.2 (by omega)).one_cell) rfl ?_
      intro w21 hn hg
      replace hB := hB.grown hg hB.size (by intro k_ hk_; cases hk_; exact HG14.out)
      clear c39x
      clear c39y
      replace hk9 := hk9.grown hg (fun e_ => NE9_14.out (Option.some.inj e_))
      clear c47x
      clear c47y
      replace hk10 := hk10.grown hg (fun e_ => NE10_14.out (Option.some.inj e_))
      clear c53x
      clear c53y
      replace hk12 := hk12.grown hg (fun e_ => NE12_14.out (Option.some.inj e_))
      replace hR := hR.grown hg hR.size (by intro k_ hk_; cases hk_; exact HR_.out)
      clear n59
      replace c61x := c61x.off off_c61x_14 hg
      replace c61y := c61y.off off_c61y_14 hg
      replace hk14 := hn
      clear hn hg
      refine hK.out _ _ hk9 (fun hS => ?_)
      refine wpAnyH_take (i := 10) (v := ?_) rfl (by kernel_rfl) (by kernel_rfl) (by kernel_rfl) (fun _ _ _ h => h) (Or.inl ⟨by rfl, ?_⟩) hS ?_
      rotate_left
      · intro w _; go_simp; try with_reducible rfl
      simp only [List.getElem_toArray, List.getElem_cons_zero, List.getElem_cons_succ, Act.put, List.setIfInBounds_toArray, List.set_cons_zero, List.set_cons_succ]
      refine wpAnyH_done (by kernel_rfl) ?_ _
      clear hS
      go_wp2_with fail
      go_meet
      exact ⟨rfl, _, _, _, rfl, hk14, (c61x.can smS.1 (by omega)), (c61y.can smS.2 (by omega)), HR_.out, hR⟩
     ·
      refine wp_alloc_agg 29 rfl [(.slice none 0 0), (.slice none 0 0), (.bool false)] 3 (by kernel_rfl) ?_
      intro w19 hk14 hb
      have hz_ := hB.size
      have hR0_ := hR.size
      have lt9_ := hk9.lt
      have lt10_ := hk10.lt
      have lt12_ := hk12.lt
      replace hB := hB.trans (hb.mono hB.size)
      replace c39x := c39x.below hb
      replace c39y := c39y.below hb
      replace hk9 := hk9.keep hb
      replace c47x := c47x.below hb
      replace c47y := c47y.below hb
      replace hk10 := hk10.keep hb
      replace c53x := c53x.below hb
      replace c53y := c53y.below hb
      replace hk12 := hk12.keep hb
      replace hR := hR.trans (hb.mono hR.size)
      replace n59 := n59.below hb
      clear hb
      obtain ⟨g14, hg_⟩ : ∃ g, g = w18.heap.size := ⟨_, rfl⟩
      rw [← hg_] at hk14 ⊢
      have HG14 : Hid (w.heap.size ≤ g14) := Lib.hid (by rw [hg_]; exact hz_)
      have NE9_14 : Hid (g9 ≠ g14) := Lib.hid (by rw [hg_]; exact Nat.ne_of_lt lt9_)
      have NE10_14 : Hid (g10 ≠ g14) := Lib.hid (by rw [hg_]; exact Nat.ne_of_lt lt10_)
      have NE12_14 : Hid (g12 ≠ g14) := Lib.hid (by rw [hg_]; exact Nat.ne_of_lt lt12_)
      have HR_ : Hid (w16.heap.size ≤ g14) := Lib.hid (by rw [hg_]; exact hR0_)
      clear hR0_
      clear hg_ hz_ lt9_ lt10_ lt12_
      refine hK.out _ _ hk9 (fun hS => ?_)
      have h_ := mul_any (i := false) n59 ⟨_, _, rfl, c39x.num, c39y.num⟩ (tP.below hB) (tD.below hB)
      unfold AnsPost at h_
      rw [HrS.out, HcS.out] at h_
      refine wpAnyH_ready (rs := [4]) (by kernel_rfl) (by simp) ?_
      refine AllReadyH.cons rfl (fun K hK => ?_) AllReadyH.nil
      rw [if_pos (by rfl)]
      simp only [List.getElem_toArray, List.getElem_cons_zero, List.getElem_cons_succ]
      go_simp
      refine (h_).mono ?_; rintro e_ w20 ⟨v61, rfl, hn, hb⟩
      dsimp only
      obtain ⟨v61x, v61y, rfl, h1_, h2_⟩ := hn
      have off_c61x_9 := NatRes.off_new h1_ hk9.lt
      have off_c61x_10 := NatRes.off_new h1_ hk10.lt
      have off_c61x_12 := NatRes.off_new h1_ hk12.lt
      have off_c61x_14 := NatRes.off_new h1_ hk14.lt
      have off_c61y_9 := NatRes.off_new h2_ hk9.lt
      have off_c61y_10 := NatRes.off_new h2_ hk10.lt
      have off_c61y_12 := NatRes.off_new h2_ hk12.lt
      have off_c61y_14 := NatRes.off_new h2_ hk14.lt
      have c61x := h1_.mono (Nat.zero_le _)
      have c61y := h2_.mono (Nat.zero_le _)
      obtain ⟨av61x, nv61x, pv61x, rfl⟩ := (c61x.can smS.1 (by omega)).sliced
      obtain ⟨av61y, nv61y, pv61y, rfl⟩ := (c61y.can smS.2 (by omega)).sliced
      clear h1_ h2_
      replace hB := hB.trans (hb.mono hB.size)
      replace c39x := c39x.below hb
      replace c39y := c39y.below hb
      replace hk9 := hk9.keep hb
      replace c47x := c47x.below hb
      replace c47y := c47y.below hb
      replace hk10 := hk10.keep hb
      replace c53x := c53x.below hb
      replace c53y := c53y.below hb
      replace hk12 := hk12.keep hb
      replace hR := hR.trans (hb.mono hR.size)
      replace n59 := n59.below hb
      replace hk14 := hk14.keep hb
      clear hb h_
      refine hK.out _ _ hk9 (fun hS => ?_)
      refine wpAnyH_take (i := 5) (v := ?_) rfl (by kernel_rfl) (by kernel_rfl) (by kernel_rfl) (fun _ _ _ h => h) (Or.inl ⟨by rfl, ?_⟩) hS ?_
      rotate_left
      · intro w _; go_simp; try with_reducible rfl
      simp only [List.getElem_toArray, List.getElem_cons_zero, List.getElem_cons_succ, Act.put, List.setIfInBounds_toArray, List.set_cons_zero, List.set_cons_succ]
      refine wpAnyH_take (i := 6) (v := ?_) rfl (by kernel_rfl) (by kernel_rfl) (by kernel_rfl) (fun _ _ _ h => h) (Or.inl ⟨by rfl, ?_⟩) hS ?_
      rotate_left
      · intro w _; go_simp; try with_reducible rfl
      simp only [List.getElem_toArray, List.getElem_cons_zero, List.getElem_cons_succ, Act.put, List.setIfInBounds_toArray, List.set_cons_zero, List.set_cons_succ]
      refine wpAnyH_take (i := 7) (v := ?_) rfl (by kernel_rfl) (by kernel_rfl) (by kernel_rfl) (fun _ _ _ h => h) (Or.inl ⟨by rfl, ?_⟩) hS ?_
      rotate_left
      · intro w _; go_simp; try with_reducible rfl
      simp only [List.getElem_toArray, List.getElem_cons_zero, List.getElem_cons_succ, Act.put, List.setIfInBounds_toArray, List.set_cons_zero, List.set_cons_succ]
      refine wpAnyH_ready (rs := [9]) (by kernel_rfl) (by simp) ?_
      refine AllReadyH.cons rfl (fun K hK => ?_) AllReadyH.nil
      rw [if_pos (by rfl)]
      simp only [List.getElem_toArray, List.getElem_cons_zero, List.getElem_cons_succ]
      refine wp_store_agg 29 _ _ rfl g14 29 [(.slice none 0 0), (.slice none 0 0), (.bool false)] [(.slice av61x nv61x pv61x), (.slice av61y nv61y pv61y), (.bool false)] rfl rfl hk14 size_pt (by intro v_ hv_; simp only [List.mem_cons, List.not_mem_nil, or_false] at hv_; rcases hv_ with rfl | rfl | rfl <;> first | rfl | exact (c61x.can smS.1 (by omega)).one_cell | exact (c61y.can smS.2 (by omega)).one_cell) rfl ?_
      intro w21 hn hg
      replace hB := hB.grown hg hB.size (by intro k_ hk_; cases hk_; exact HG14.out)
      clear c39x
      clear c39y
      replace hk9 := hk9.grown hg (fun e_ => NE9_14.out (Option.some.inj e_))
      clear c47x
      clear c47y
      replace hk10 := hk10.grown hg (fun e_ => NE10_14.out (Option.some.inj e_))
      clear c53x
      clear c53y
      replace hk12 := hk12.grown hg (fun e_ => NE12_14.out (Option.some.inj e_))
      replace hR := hR.grown hg hR.size (by intro k_ hk_; cases hk_; exact HR_.out)
      clear n59
      replace hk14 := hn
      replace c61x := c61x.off off_c61x_14 hg
      replace c61y := c61y.off off_c61y_14 hg
      clear hn hg
      refine hK.out _ _ hk9 (fun hS => ?_)
      refine wpAnyH_take (i := 10) (v := ?_) rfl (by kernel_rfl) (by kernel_rfl) (by kernel_rfl) (fun _ _ _ h => h) (Or.inl ⟨by rfl, ?_⟩) hS ?_
      rotate_left
      · intro w _; go_simp; try with_reducible rfl
      simp only [List.getElem_toArray, List.getElem_cons_zero, List.getElem_cons_succ, Act.put, List.setIfInBounds_toArray, List.set_cons_zero, List.set_cons_succ]
      refine wpAnyH_done (by kernel_rfl) ?_ _
      clear hS
      go_wp2_with fail
      go_meet
      exact ⟨rfl, _, _, _, rfl, hk14, (c61x.can smS.1 (by omega)), (c61y.can smS.2 (by omega)), HR_.out, hR⟩
    ·
     refine wp_alloc_agg 29 rfl [(.slice none 0 0), (.slice none 0 0), (.bool false)] 3 (by kernel_rfl) ?_
     intro w18 hk14 hb
     have hz_ := hB.size
     have hR0_ := hR.size
     have lt9_ := hk9.lt
     have lt10_ := hk10.lt
     have lt12_ := hk12.lt
     replace hB := hB.trans (hb.mono hB.size)
     replace c39x := c39x.below hb
     replace c39y := c39y.below hb
     replace hk9 := hk9.keep hb
     replace c47x := c47x.below hb
     replace c47y := c47y.below hb
     replace hk10 := hk10.keep hb
     replace c53x := c53x.below hb
     replace c53y := c53y.below hb
     replace hk12 := hk12.keep hb
     replace hR := hR.trans (hb.mono hR.size)
     clear hb
     obtain ⟨g14, hg_⟩ : ∃ g, g = w17.heap.size := ⟨_, rfl⟩
     rw [← hg_] at hk14 ⊢
     have HG14 : Hid (w.heap.size ≤ g14) := Lib.hid (by rw [hg_]; exact hz_)
     have NE9_14 : Hid (g9 ≠ g14) := Lib.hid (by rw [hg_]; exact Nat.ne_of_lt lt9_)
     have NE10_14 : Hid (g10 ≠ g14) := Lib.hid (by rw [hg_]; exact Nat.ne_of_lt lt10_)
     have NE12_14 : Hid (g12 ≠ g14) := Lib.hid (by rw [hg_]; exact Nat.ne_of_lt lt12_)
     have HR_ : Hid (w16.heap.size ≤ g14) := Lib.hid (by rw [hg_]; exact hR0_)
     clear hR0_
     clear hg_ hz_ lt9_ lt10_ lt12_
     refine hK.out _ _ hk9 (fun hS => ?_)
     refine wpAnyH_ready (rs := [2]) (by kernel_rfl) (by simp) ?_
     refine AllReadyH.cons rfl (fun K hK => ?_) AllReadyH.nil
     rw [if_pos (by rfl)]
     simp only [List.getElem_toArray, List.getElem_cons_zero, List.getElem_cons_succ]
     go_simp
     refine (AD _ hB).mono ?_; rintro e_ w19 ⟨v59, rfl, hn, hb⟩
     dsimp only
     have n59 := hn.num slim (by omega)
     clear hn
     replace hB := hB.trans (hb.mono hB.size)
     replace c39x := c39x.below hb
     replace c39y := c39y.below hb
     replace hk9 := hk9.keep hb
     replace c47x := c47x.below hb
     replace c47y := c47y.below hb
     replace hk10 := hk10.keep hb
     replace c53x := c53x.below hb
     replace c53y := c53y.below hb
     replace hk12 := hk12.keep hb
     replace hR := hR.trans (hb.mono hR.size)
     replace hk14 := hk14.keep hb
     clear hb
     refine hK.out _ _ hk9 (fun hS => ?_)
     have h_ := mul_any (i := false) n59 ⟨_, _, rfl, c39x.num, c39y.num⟩ (tP.below hB) (tD.below hB)
     unfold AnsPost at h_
     rw [HrS.out, HcS.out] at h_
     refine wpAnyH_ready (rs := [4]) (by kernel_rfl) (by simp) ?_
     refine AllReadyH.cons rfl (fun K hK => ?_) AllReadyH.nil
     rw [if_pos (by rfl)]
     simp only [List.getElem_toArray, List.getElem_cons_zero, List.getElem_cons_succ]
     go_simp
     refine (h_).mono ?_; rintro e_ w20 ⟨v61, rfl, hn, hb⟩
     dsimp only
     obtain ⟨v61x, v61y, rfl, h1_, h2_⟩ := hn
     have off_c61x_9 := NatRes.off_new h1_ hk9.lt
     have off_c61x_10 := NatRes.off_new h1_ hk10.lt
     have off_c61x_12 := NatRes.off_new h1_ hk12.lt
     have off_c61x_14 := NatRes.off_new h1_ hk14.lt
     have off_c61y_9 := NatRes.off_new h2_ hk9.lt
     have off_c61y_10 := NatRes.off_new h2_ hk10.lt
     have off_c61y_12 := NatRes.off_new h2_ hk12.lt
     have off_c61y_14 := NatRes.off_new h2_ hk14.lt
     have c61x := h1_.mono (Nat.zero_le _)
     have c61y := h2_.mono (Nat.zero_le _)
     obtain ⟨av61x, nv61x, pv61x, rfl⟩ := (c61x.can smS.1 (by omega)).sliced
     obtain ⟨av61y, nv61y, pv61y, rfl⟩ := (c61y.can smS.2 (by omega)).sliced
     clear h1_ h2_
     replace hB := hB.trans (hb.mono hB.size)
     replace c39x := c39x.below hb
     replace c39y := c39y.below hb
     replace hk9 := hk9.keep hb
     replace c47x := c47x.below hb
     replace c47y := c47y.below hb
     replace hk10 := hk10.keep hb
     replace c53x := c53x.below hb
     replace c53y := c53y.below hb
     replace hk12 := hk12.keep hb
     replace hR := hR.trans (hb.mono hR.size)
     replace hk14 := hk14.keep hb
     replace n59 := n59.below hb
     clear hb h_
     refine hK.out _ _ hk9 (fun hS => ?_)
     refine wpAnyH_take (i := 5) (v := ?_) rfl (by kernel_rfl) (by kernel_rfl) (by kernel_rfl) (fun _ _ _ h => h) (Or.inl ⟨by rfl, ?_⟩) hS ?_
     rotate_left
     · intro w _; go_simp; try with_reducible rfl
     simp only [List.getElem_toArray, List.getElem_cons_zero, List.getElem_cons_succ, Act.put, List.setIfInBounds_toArray, List.set_cons_zero, List.set_cons_succ]
     refine wpAnyH_take (i := 6) (v := ?_) rfl (by kernel_rfl) (by kernel_rfl) (by kernel_rfl) (fun _ _ _ h => h) (Or.inl ⟨by rfl, ?_⟩) hS ?_
     rotate_left
     · intro w _; go_simp; try with_reducible rfl
     simp only [List.getElem_toArray, List.getElem_cons_zero, List.getElem_cons_succ, Act.put, List.setIfInBounds_toArray, List.set_cons_zero, List.set_cons_succ]
     refine wpAnyH_take (i := 7) (v := ?_) rfl (by kernel_rfl) (by kernel_rfl) (by kernel_rfl) (fun _ _ _ h => h) (Or.inl ⟨by rfl, ?_⟩) hS ?_
     rotate_left
     · intro w _; go_simp; try with_reducible rfl
     simp only [List.getElem_toArray, List.getElem_cons_zero, List.getElem_cons_succ, Act.put, List.setIfInBounds_toArray, List.set_cons_zero, List.set_cons_succ]
     refine wpAnyH_ready (rs := [9]) (by kernel_rfl) (by simp) ?_
     refine AllReadyH.cons rfl (fun K hK => ?_) AllReadyH.nil
     rw [if_pos (by rfl)]
     simp only [List.getElem_toArray, List.getElem_cons_zero, List.getElem_cons_succ]
     refine wp_store_agg 29 _ _ rfl g14 29 [(.slice none 0 0), (.slice none 0 0), (.bool false)] [(.slice av61x nv61x pv61x), (.slice av61y nv61y pv61y), (.bool false)] rfl rfl hk14 size_pt (by intro v_ hv_; simp only [List.mem_cons, List.not_mem_nil, or_false] at hv_; rcases hv_ with rfl | rfl | rfl <;> first | rfl | exact (c61x.can smS.1 (by omega)).one_cell | exact (c61y.can smS.2 (by omega)).one_cell) rfl ?_
     intro w21 hn hg
     replace hB := hB.grown hg hB.size (by intro k_ hk_; cases hk_; exact HG14.out)
     clear c39x
     clear c39y
     replace hk9 := hk9.grown hg (fun e_ => NE9_14.out (Option.some.inj e_))
     clear c47x
     clear c47y
     replace hk10 := hk10.grown hg (fun e_ => NE10_14.out (Option.some.inj e_))
     clear c53x
     clear c53y
     replace hk12 := hk12.grown hg (fun e_ => NE12_14.out (Option.some.inj e_))
     replace hR := hR.grown hg hR.size (by intro k_ hk_; cases hk_; exact HR_.out)
     replace hk14 := hn
     clear n59
     replace c61x := c61x.off off_c61x_14 hg
     replace c61y := c61y.off off_c61y_14 hg
     clear hn hg
     refine hK.out _ _ hk9 (fun hS => ?_)
     refine wpAnyH_take (i := 10) (v := ?_) rfl (by kernel_rfl) (by kernel_rfl) (by kernel_rfl) (fun _ _ _ h => h) (Or.inl ⟨by rfl, ?_⟩) hS ?_
     rotate_left
     · intro w _; go_simp; try with_reducible rfl
     simp only [List.getElem_toArray, List.getElem_cons_zero, List.getElem_cons_succ, Act.put, List.setIfInBounds_toArray, List.set_cons_zero, List.set_cons_succ]
     refine wpAnyH_done (by kernel_rfl) ?_ _
     clear hS
     go_wp2_with fail
     go_meet
     exact ⟨rfl, _, _, _, rfl, hk14, (c61x.can smS.1 (by omega)), (c61y.can smS.2 (by omega)), HR_.out, hR⟩
   case rest =>
    obtain ⟨rfl, g14, v14x, v14y, rfl, hk14, c14x, c14y, hgx_, hb⟩ := hcut
    obtain ⟨w17, rfl⟩ : ∃ x, x = wc := ⟨_, rfl⟩
    replace hB := hB.trans (hb.mono hB.size)
    replace c39x := c39x.below hb
    replace c39y := c39y.below hb
    replace hk9 := hk9.keep hb
    replace c47x := c47x.below hb
    replace c47y := c47y.below hb
    replace hk10 := hk10.keep hb
    replace c53x := c53x.below hb
    replace c53y := c53y.below hb
    replace hk12 := hk12.keep hb
    clear hb hgx_ hR
    go_wp2_with (refine wpList_lit rfl 27 36 _ rfl Tryd.underlying27 info32e 1 rfl ?_)
    intro w18 hl hb
    have c65 := (NatRes.lit (c := 1) hl (Nat.zero_le _) (by omega) (by omega)).can (k := 1) (by exact ⟨by decide +kernel⟩) (by omega)
    replace c65 : CanAt w18 _ (1 : Fp).val := c65
    obtain ⟨v65, hv65⟩ : ∃ v, v = Value.slice (some ⟨w17.heap.size, 0, none⟩) 1 1 := ⟨_, rfl⟩
    rw [← hv65] at c65 ⊢
    clear hv65 hl
    replace hB := hB.trans (hb.mono hB.size)
    replace c39x := c39x.below hb
    replace c39y := c39y.below hb
    replace hk9 := hk9.keep hb
    replace c47x := c47x.below hb
    replace c47y := c47y.below hb
    replace hk10 := hk10.keep hb
    replace c53x := c53x.below hb
    replace c53y := c53y.below hb
    replace hk12 := hk12.keep hb
    replace hk14 := hk14.keep hb
    replace c14x := c14x.below hb
    replace c14y := c14y.below hb
    clear hb
    have h_ := mul_ok (k := 1) (P := P) (by have h_ := c65.num; rw [fone_val] at h_; exact h_) ⟨_, _, rfl, c39x.num, c39y.num⟩ OP.out (by decide +kernel) (tP.below hB) (tD.below hB)
    rw [eMul_one OP.out] at h_
    go_wp2_with (refine wpList_load_agg rfl 29 _ rfl g9 rfl _ [(.slice av39x nv39x pv39x), (.slice av39y nv39y pv39y), (.bool false)] _ hk9 Tryd.underlying29 rfl size_pt ?_)
    refine (h_).mono ?_; rintro e_ w19 ⟨v67, rfl, hn, hb⟩
    obtain ⟨v67x, v67y, rfl, h1_, h2_, _⟩ := hn
    have c67x := h1_.fp
    have c67y := h2_.fp
    obtain ⟨av67x, nv67x, pv67x, rfl⟩ := c67x.sliced
    obtain ⟨av67y, nv67y, pv67y, rfl⟩ := c67y.sliced
    clear h1_ h2_
    replace hB := hB.trans (hb.mono hB.size)
    replace c39x := c39x.below hb
    replace c39y := c39y.below hb
    replace hk9 := hk9.keep hb
    replace c47x := c47x.below hb
    replace c47y := c47y.below hb
    replace hk10 := hk10.keep hb
    replace c53x := c53x.below hb
    replace c53y := c53y.below hb
    replace hk12 := hk12.keep hb
    replace hk14 := hk14.keep hb
    replace c14x := c14x.below hb
    replace c14y := c14y.below hb
    replace c65 := c65.below hb
    clear hb h_
    go_wp2_with (refine wpList_alloc_agg rfl 29 rfl [(.slice none 0 0), (.slice none 0 0), (.bool false)] 3 (by kernel_rfl) ?_)
    intro w20 hk_ hbA_
    obtain ⟨g16, hg_⟩ : ∃ g, g = w19.heap.size := ⟨_, rfl⟩
    rw [← hg_] at hk_ ⊢
    have HGE_ : Hid (w19.heap.size ≤ g16) := Lib.hid (by rw [hg_]; exact Nat.le_refl _)
    clear hg_
    go_wp2_with (refine wpList_store_agg rfl 29 _ _ rfl g16 29 [(.slice none 0 0), (.slice none 0 0), (.bool false)] [(.slice av67x nv67x pv67x), (.slice av67y nv67y pv67y), (.bool false)] rfl rfl hk_ size_pt (by intro v_ hv_; simp only [List.mem_cons, List.not_mem_nil, or_false] at hv_; rcases hv_ with rfl | rfl | rfl <;> first | rfl | exact c67x.one_cell | exact c67y.one_cell) rfl ?_)
    intro w21 hn_ hgr_
    have hk16 := hn_
    have hb := hbA_.grown hgr_ hbA_.size (by intro k_ hk_; cases hk_; exact HGE_.out)
    clear hn_ hgr_ hk_ hbA_ HGE_
    replace hB := hB.trans (hb.mono hB.size)
    replace c39x := c39x.below hb
    replace c39y := c39y.below hb
    replace hk9 := hk9.keep hb
    replace c47x := c47x.below hb
    replace c47y := c47y.below hb
    replace hk10 := hk10.keep hb
    replace c53x := c53x.below hb
    replace c53y := c53y.below hb
    replace hk12 := hk12.keep hb
    replace hk14 := hk14.keep hb
    replace c14x := c14x.below hb
    replace c14y := c14y.below hb
    replace c65 := c65.below hb
    replace c67x := c67x.below hb
    replace c67y := c67y.below hb
    clear hb
    have h_ := mul_ok (k := 0) (P := P) (by have h_ := (CanAt.nil0 w21).num; rw [fzero_val] at h_; exact h_) ⟨_, _, rfl, c39x.num, c39y.num⟩ OP.out (by decide +kernel) (tP.below hB) (tD.below hB)
    rw [show eMul 0 P = eO from rfl] at h_
    go_wp2_with (refine wpList_load_agg rfl 29 _ rfl g9 rfl _ [(.slice av39x nv39x pv39x), (.slice av39y nv39y pv39y), (.bool false)] _ hk9 Tryd.underlying29 rfl size_pt ?_)
    refine (h_).mono ?_; rintro e_ w22 ⟨v72, rfl, hn, hb⟩
    obtain ⟨v72x, v72y, rfl, h1_, h2_, _⟩ := hn
    have c72x := h1_.fp
    have c72y := h2_.fp
    obtain ⟨av72x, nv72x, pv72x, rfl⟩ := c72x.sliced
    obtain ⟨av72y, nv72y, pv72y, rfl⟩ := c72y.sliced
    clear h1_ h2_
    replace hB := hB.trans (hb.mono hB.size)
    replace c39x := c39x.below hb
    replace c39y := c39y.below hb
    replace hk9 := hk9.keep hb
    replace c47x := c47x.below hb
    replace c47y := c47y.below hb
    replace hk10 := hk10.keep hb
    replace c53x := c53x.below hb
    replace c53y := c53y.below hb
    replace hk12 := hk12.keep hb
    replace hk14 := hk14.keep hb
    replace c14x := c14x.below hb
    replace c14y := c14y.below hb
    replace c65 := c65.below hb
    replace c67x := c67x.below hb
    replace c67y := c67y.below hb
    replace hk16 := hk16.keep hb
    clear hb h_
    go_wp2_with (refine wpList_alloc_agg rfl 29 rfl [(.slice none 0 0), (.slice none 0 0), (.bool false)] 3 (by kernel_rfl) ?_)
    intro w23 hk_ hbA_
    obtain ⟨g18, hg_⟩ : ∃ g, g = w22.heap.size := ⟨_, rfl⟩
    rw [← hg_] at hk_ ⊢
    have HGE_ : Hid (w22.heap.size ≤ g18) := Lib.hid (by rw [hg_]; exact Nat.le_refl _)
    clear hg_
    go_wp2_with (refine wpList_store_agg rfl 29 _ _ rfl g18 29 [(.slice none 0 0), (.slice none 0 0), (.bool false)] [(.slice av72x nv72x pv72x), (.slice av72y nv72y pv72y), (.bool false)] rfl rfl hk_ size_pt (by intro v_ hv_; simp only [List.mem_cons, List.not_mem_nil, or_false] at hv_; rcases hv_ with rfl | rfl | rfl <;> first | rfl | exact c72x.one_cell | exact c72y.one_cell) rfl ?_)
    intro w24 hn_ hgr_
    have hk18 := hn_
    have hb := hbA_.grown hgr_ hbA_.size (by intro k_ hk_; cases hk_; exact HGE_.out)
    clear hn_ hgr_ hk_ hbA_ HGE_
    replace hB := hB.trans (hb.mono hB.size)
    replace c39x := c39x.below hb
    replace c39y := c39y.below hb
    replace hk9 := hk9.keep hb
    replace c47x := c47x.below hb
    replace c47y := c47y.below hb
    replace hk10 := hk10.keep hb
    replace c53x := c53x.below hb
    replace c53y := c53y.below hb
    replace hk12 := hk12.keep hb
    replace hk14 := hk14.keep hb
    replace c14x := c14x.below hb
    replace c14y := c14y.below hb
    replace c65 := c65.below hb
    replace c67x := c67x.below hb
    replace c67y := c67y.below hb
    replace hk16 := hk16.keep hb
    replace c72x := c72x.below hb
    replace c72y := c72y.below hb
    clear hb
    by_cases qK : bK ≤ 1024
    ·
     by_cases qL : bL ≤ 1024
     ·
      by_cases qS : bS ≤ 1024
      ·
       have hdK : decide ((1024 : Int) < (bK : Int)) = false := decide_eq_false (by omega)
       have hm_ : mulA K P.1.val P.2.val false = ptA (eMul K P) := mulA_yes OP.out (by rw [← HKb.out]; omega)
       obtain rfl : cK = 0 := by rw [← HcK.out, ← HrK.out, hm_]; rfl
       obtain ⟨XK, hX_⟩ : ∃ X, X = eMul K P := ⟨_, rfl⟩
       rw [← hX_] at hm_
       have OXK : Hid (OnC XK) := Lib.hid (by rw [hX_]; exact eMul_on OP.out _)
       have HXK := Lib.hid hX_
       have hr_ : rK = ptA XK := by rw [← HrK.out, hm_]
       rw [hr_] at c47x
       rw [hr_] at c47y
       replace c47x : CanAt _ _ XK.1.val := c47x
       replace c47y : CanAt _ _ XK.2.val := c47y
       clear hX_ hr_
       clear hm_
       have hdL : decide ((1024 : Int) < (bL : Int)) = false := decide_eq_false (by omega)
       have hm_ : mulA L P.1.val P.2.val false = ptA (eMul L P) := mulA_yes OP.out (by rw [← HLb.out]; omega)
       obtain rfl : cL = 0 := by rw [← HcL.out, ← HrL.out, hm_]; rfl
       obtain ⟨XL, hX_⟩ : ∃ X, X = eMul L P := ⟨_, rfl⟩
       rw [← hX_] at hm_
       have OXL : Hid (OnC XL) := Lib.hid (by rw [hX_]; exact eMul_on OP.out _)
       have HXL := Lib.hid hX_
       have hr_ : rL = ptA XL := by rw [← HrL.out, hm_]
       rw [hr_] at c53x
       rw [hr_] at c53y
       replace c53x : CanAt _ _ XL.1.val := c53x
       replace c53y : CanAt _ _ XL.2.val := c53y
       clear hX_ hr_
       clear hm_
       have hdS : decide ((1024 : Int) < (bS : Int)) = false := decide_eq_false (by omega)
       have hm_ : mulA S P.1.val P.2.val false = ptA (eMul S P) := mulA_yes OP.out (by rw [← HSb.out]; omega)
       obtain rfl : cS = 0 := by rw [← HcS.out, ← HrS.out, hm_]; rfl
       obtain ⟨XS, hX_⟩ : ∃ X, X = eMul S P := ⟨_, rfl⟩
       rw [← hX_] at hm_
       have OXS : Hid (OnC XS) := Lib.hid (by rw [hX_]; exact eMul_on OP.out _)
       have HXS := Lib.hid hX_
       have hr_ : rS = ptA XS := by rw [← HrS.out, hm_]
       rw [hr_] at c14x
       rw [hr_] at c14y
       replace c14x : CanAt _ _ XS.1.val := c14x
       replace c14y : CanAt _ _ XS.2.val := c14y
       clear hX_ hr_
       clear hm_
       clear hle qK qL qS
       have HXA : Hid (eAdd XK XL = XS) := Lib.hid (by rw [HXK.out, HXL.out, HXS.out, HS.out, eMul_add OP.out])
       go_wp2_with fail
       refine (BK _ hB).mono ?_; rintro e_ w25 ⟨rfl, rfl⟩
       go_wp2_with fail
       refine (BL _ hB).mono ?_; rintro e_ w25 ⟨rfl, rfl⟩
       go_wp2_with fail
       refine (AD _ hB).mono ?_; rintro e_ w25 ⟨v86, rfl, hn, hb⟩
       have n86 := hn.num slim (by omega)
       clear hn
       replace hB := hB.trans (hb.mono hB.size)
       replace c39x := c39x.below hb
       replace c39y := c39y.below hb
       replace hk9 := hk9.keep hb
       replace c47x := c47x.below hb
       replace c47y := c47y.below hb
       replace hk10 := hk10.keep hb
       replace c53x := c53x.below hb
       replace c53y := c53y.below hb
       replace hk12 := hk12.keep hb
       replace hk14 := hk14.keep hb
       replace c14x := c14x.below hb
       replace c14y := c14y.below hb
       replace c65 := c65.below hb
       replace c67x := c67x.below hb
       replace c67y := c67y.below hb
       replace hk16 := hk16.keep hb
       replace c72x := c72x.below hb
       replace c72y := c72y.below hb
       replace hk18 := hk18.keep hb
       clear hb
       go_wp2_with fail
       refine (BS _ _ n86).mono ?_; rintro e_ w26 ⟨rfl, rfl⟩
       have h_ := add_ok ⟨_, _, rfl, c47x.num, c47y.num⟩ ⟨_, _, rfl, c53x.num, c53y.num⟩ OXK.out OXL.out (tP.below hB) (tD.below hB)
       rw [HXA.out] at h_
       go_wp2_with (first | refine wpList_load_agg rfl 29 _ rfl g10 rfl _ [(.slice av47x nv47x pv47x), (.slice av47y nv47y pv47y), (.bool false)] _ hk10 Tryd.underlying29 rfl size_pt ?_ | refine wpList_load_agg rfl 29 _ rfl g12 rfl _ [(.slice av53x nv53x pv53x), (.slice av53y nv53y pv53y), (.bool false)] _ hk12 Tryd.underlying29 rfl size_pt ?_)
       refine (h_).mono ?_; rintro e_ w26 ⟨v135, rfl, hn, hb⟩
       obtain ⟨v135x, v135y, rfl, h1_, h2_, _⟩ := hn
       have c135x := h1_.fp
       have c135y := h2_.fp
       obtain ⟨av135x, nv135x, pv135x, rfl⟩ := c135x.sliced
       obtain ⟨av135y, nv135y, pv135y, rfl⟩ := c135y.sliced
       clear h1_ h2_
       replace hB := hB.trans (hb.mono hB.size)
       replace c39x := c39x.below hb
       replace c39y := c39y.below hb
       replace hk9 := hk9.keep hb
       replace c47x := c47x.below hb
       replace c47y := c47y.below hb
       replace hk10 := hk10.keep hb
       replace c53x := c53x.below hb
       replace c53y := c53y.below hb
       replace hk12 := hk12.keep hb
       replace hk14 := hk14.keep hb
       replace c14x := c14x.below hb
       replace c14y := c14y.below hb
       replace c65 := c65.below hb
       replace c67x := c67x.below hb
       replace c67y := c67y.below hb
       replace hk16 := hk16.keep hb
       replace c72x := c72x.below hb
       replace c72y := c72y.below hb
       replace hk18 := hk18.keep hb
       replace n86 := n86.below hb
       clear hb h_
       go_wp2_with (refine wpList_alloc_agg rfl 29 rfl [(.slice none 0 0), (.slice none 0 0), (.bool false)] 3 (by kernel_rfl) ?_)
       intro w27 hk_ hbA_
       obtain ⟨g20, hg_⟩ : ∃ g, g = w26.heap.size := ⟨_, rfl⟩
       rw [← hg_] at hk_ ⊢
       have HGE_ : Hid (w26.heap.size ≤ g20) := Lib.hid (by rw [hg_]; exact Nat.le_refl _)
       clear hg_
       go_wp2_with (refine wpList_store_agg rfl 29 _ _ rfl g20 29 [(.slice none 0 0), (.slice none 0 0), (.bool false)] [(.slice av135x nv135x pv135x), (.slice av135y nv135y pv135y), (.bool false)] rfl rfl hk_ size_pt (by intro v_ hv_; simp only [List.mem_cons, List.not_mem_nil, or_false] at hv_; rcases hv_ with rfl | rfl | rfl <;> first | rfl | exact c135x.one_cell | exact c135y.one_cell) rfl ?_)
       intro w28 hn_ hgr_
       have hk20 := hn_
       have hb := hbA_.grown hgr_ hbA_.size (by intro k_ hk_; cases hk_; exact HGE_.out)
       clear hn_ hgr_ hk_ hbA_ HGE_
       replace hB := hB.trans (hb.mono hB.size)
       replace c39x := c39x.below hb
       replace c39y := c39y.below hb
       replace hk9 := hk9.keep hb
       replace c47x := c47x.below hb
       replace c47y := c47y.below hb
       replace hk10 := hk10.keep hb
       replace c53x := c53x.below hb
       replace c53y := c53y.below hb
       replace hk12 := hk12.keep hb
       replace hk14 := hk14.keep hb
       replace c14x := c14x.below hb
       replace c14y := c14y.below hb
       replace c65 := c65.below hb
       replace c67x := c67x.below hb
       replace c67y := c67y.below hb
       replace hk16 := hk16.keep hb
       replace c72x := c72x.below hb
       replace c72y := c72y.below hb
       replace hk18 := hk18.keep hb
       replace n86 := n86.below hb
       replace c135x := c135x.below hb
       replace c135y := c135y.below hb
       clear hb
       go_wp2_with fail
       refine wp_region_held_drew (S := fun W_ => Rw W_ g9 29 [(.slice av39x nv39x pv39x), (.slice av39y nv39y pv39y), (.bool false)] ∧ Rw W_ g14 29 [v14x, v14y, .bool false] ∧ Rw W_ g16 29 [(.slice av67x nv67x pv67x), (.slice av67y nv67y pv67y), (.bool false)] ∧ Rw W_ g18 29 [(.slice av72x nv72x pv72x), (.slice av72y nv72y pv72y), (.bool false)] ∧ Rw W_ g20 29 [(.slice av135x nv135x pv135x), (.slice av135y nv135y pv135y), (.bool false)]) (by kernel_rfl) (⟨hk9, hk14, hk16, hk18, hk20⟩) (fun hS => ?_)
       have hb := below_drewN (Below.refl w28.heap.size w28) 1
       obtain ⟨w29, hw_⟩ : ∃ x, x = World.drew w28 := ⟨_, rfl⟩
       rw [show World.drewN w28 1 = w29 from hw_.symm] at hb
       rw [← hw_] at hS ⊢
       clear hw_
       replace hB := hB.trans (hb.mono hB.size)
       replace c39x := c39x.below hb
       replace c39y := c39y.below hb
       replace hk9 := hk9.keep hb
       replace c47x := c47x.below hb
       replace c47y := c47y.below hb
       replace hk10 := hk10.keep hb
       replace c53x := c53x.below hb
       replace c53y := c53y.below hb
       replace hk12 := hk12.keep hb
       replace hk14 := hk14.keep hb
       replace c14x := c14x.below hb
       replace c14y := c14y.below hb
       replace c65 := c65.below hb
       replace c67x := c67x.below hb
       replace c67y := c67y.below hb
       replace hk16 := hk16.keep hb
       replace c72x := c72x.below hb
       replace c72y := c72y.below hb
       replace hk18 := hk18.keep hb
       replace n86 := n86.below hb
       replace c135x := c135x.below hb
       replace c135y := c135y.below hb
       replace hk20 := hk20.keep hb
       clear hb
       refine wpAnyH_ready (rs := [0]) (by kernel_rfl) (by simp) ?_
       refine AllReadyH.cons rfl (fun K hK => ?_) AllReadyH.nil
       rw [if_pos (by rfl)]
       simp only [List.getElem_toArray, List.getElem_cons_zero, List.getElem_cons_succ]
       go_simp
       refine hK.out _ _ hS (fun hS => ?_)
       refine wpAnyH_ready (rs := [1]) (by kernel_rfl) (by simp) ?_
       refine AllReadyH.cons rfl (fun K hK => ?_) AllReadyH.nil
       rw [if_pos (by rfl)]
       simp only [List.getElem_toArray, List.getElem_cons_zero, List.getElem_cons_succ]
       go_simp
       refine hK.out _ _ hS (fun hS => ?_)
       refine wpAnyH_ready (rs := [2]) (by kernel_rfl) (by simp) ?_
       refine AllReadyH.cons rfl (fun K hK => ?_) AllReadyH.nil
       rw [if_pos (by rfl)]
       simp only [List.getElem_toArray, List.getElem_cons_zero, List.getElem_cons_succ]
       go_simp
       refine hK.out _ _ hS (fun hS => ?_)
       refine wpAnyH_take (i := 3) (v := .agg #[(.slice av135x nv135x pv135x), (.slice av135y nv135y pv135y), (.bool false)]) rfl (by kernel_rfl) (by kernel_rfl) (by kernel_rfl) (fun _ _ _ h => h) (yieldsIf_load_mid (by rfl) 29 _ rfl g20 0 rfl [(.slice av135x nv135x pv135x), (.slice av135y nv135y pv135y), (.bool false)] _ (fun W_ hW_ => Rw.range (hW_.2.2.2.2) 0 _ fun j_ v_ hv_ => by rwa [Nat.zero_add]) Tryd.underlying29 rfl size_pt) hS ?_
       simp only [List.getElem_toArray, List.getElem_cons_zero, List.getElem_cons_succ, Act.put, List.setIfInBounds_toArray, List.set_cons_zero, List.set_cons_succ]
       refine wpAnyH_take (i := 4) (v := .agg #[v14x, v14y, .bool false]) rfl (by kernel_rfl) (by kernel_rfl) (by kernel_rfl) (fun _ _ _ h => h) (yieldsIf_load_mid (by rfl) 29 _ rfl g14 0 rfl [v14x, v14y, .bool false] _ (fun W_ hW_ => Rw.range (hW_.2.1) 0 _ fun j_ v_ hv_ => by rwa [Nat.zero_add]) Tryd.underlying29 rfl size_pt) hS ?_
       simp only [List.getElem_toArray, List.getElem_cons_zero, List.getElem_cons_succ, Act.put, List.setIfInBounds_toArray, List.set_cons_zero, List.set_cons_succ]
       have h_ := one_c ⟨_, _, rfl, c135x, c135y⟩ ⟨_, _, rfl, c14x, c14y⟩
       rw [show decide (XS.1.val = XS.1.val ∧ XS.2.val = XS.2.val) = true from decide_eq_true ⟨rfl, rfl⟩] at h_
       refine wpAnyH_ready (rs := [5]) (by kernel_rfl) (by simp) ?_
       refine AllReadyH.cons rfl (fun K hK => ?_) AllReadyH.nil
       rw [if_pos (by rfl)]
       simp only [List.getElem_toArray, List.getElem_cons_zero, List.getElem_cons_succ]
       go_simp
       refine (h_).mono ?_; rintro e_ w30 ⟨rfl, hb⟩
       dsimp only
       replace hB := hB.trans (hb.mono hB.size)
       replace c39x := c39x.below hb
       replace c39y := c39y.below hb
       replace hk9 := hk9.keep hb
       replace c47x := c47x.below hb
       replace c47y := c47y.below hb
       replace hk10 := hk10.keep hb
       replace c53x := c53x.below hb
       replace c53y := c53y.below hb
       replace hk12 := hk12.keep hb
       replace hk14 := hk14.keep hb
       replace c14x := c14x.below hb
       replace c14y := c14y.below hb
       replace c65 := c65.below hb
       replace c67x := c67x.below hb
       replace c67y := c67y.below hb
       replace hk16 := hk16.keep hb
       replace c72x := c72x.below hb
       replace c72y := c72y.below hb
       replace hk18 := hk18.keep hb
       replace n86 := n86.below hb
       replace c135x := c135x.below hb
       replace c135y := c135y.below hb
       replace hk20 := hk20.keep hb
       clear hb h_
       refine hK.out _ _ ⟨hk9, hk14, hk16, hk18, hk20⟩ (fun hS => ?_)
       refine wpAnyH_ready (rs := [6]) (by kernel_rfl) (by simp) ?_
       refine AllReadyH.cons rfl (fun K hK => ?_) AllReadyH.nil
       rw [if_pos (by rfl)]
       simp only [List.getElem_toArray, List.getElem_cons_zero, List.getElem_cons_succ]
       go_simp
       refine hK.out _ _ hS (fun hS => ?_)
       refine wpAnyH_ready (rs := [7]) (by kernel_rfl) (by simp) ?_
       refine AllReadyH.cons rfl (fun K hK => ?_) AllReadyH.nil
       rw [if_pos (by rfl)]
       simp only [List.getElem_toArray, List.getElem_cons_zero, List.getElem_cons_succ]
       go_simp
       refine hK.out _ _ hS (fun hS => ?_)
       refine wpAnyH_take (i := 8) (v := .agg #[v14x, v14y, .bool false]) rfl (by kernel_rfl) (by kernel_rfl) (by kernel_rfl) (fun _ _ _ h => h) (yieldsIf_load_mid (by rfl) 29 _ rfl g14 0 rfl [v14x, v14y, .bool false] _ (fun W_ hW_ => Rw.range (hW_.2.1) 0 _ fun j_ v_ hv_ => by rwa [Nat.zero_add]) Tryd.underlying29 rfl size_pt) hS ?_
       simp only [List.getElem_toArray, List.getElem_cons_zero, List.getElem_cons_succ, Act.put, List.setIfInBounds_toArray, List.set_cons_zero, List.set_cons_succ]
       have h_ := on13_c (inf := false) c14x c14y
       rw [onB_of OXS.out] at h_
       refine wpAnyH_ready (rs := [9]) (by kernel_rfl) (by simp) ?_
       refine AllReadyH.cons rfl (fun K hK => ?_) AllReadyH.nil
       rw [if_pos (by rfl)]
       simp only [List.getElem_toArray, List.getElem_cons_zero, List.getElem_cons_succ]
       go_simp
       refine (h_).mono ?_; rintro e_ w31 ⟨rfl, hb⟩
       dsimp only
       replace hB := hB.trans (hb.mono hB.size)
       replace c39x := c39x.below hb
       replace c39y := c39y.below hb
       replace hk9 := hk9.keep hb
       replace c47x := c47x.below hb
       replace c47y := c47y.below hb
       replace hk10 := hk10.keep hb
       replace c53x := c53x.below hb
       replace c53y := c53y.below hb
       replace hk12 := hk12.keep hb
       replace hk14 := hk14.keep hb
       replace c14x := c14x.below hb
       replace c14y := c14y.below hb
       replace c65 := c65.below hb
       replace c67x := c67x.below hb
       replace c67y := c67y.below hb
       replace hk16 := hk16.keep hb
       replace c72x := c72x.below hb
       replace c72y := c72y.below hb
       replace hk18 := hk18.keep hb
       replace n86 := n86.below hb
       replace c135x := c135x.below hb
       replace c135y := c135y.below hb
       replace hk20 := hk20.keep hb
       clear hb h_
       refine hK.out _ _ ⟨hk9, hk14, hk16, hk18, hk20⟩ (fun hS => ?_)
       refine wpAnyH_ready (rs := [10]) (by kernel_rfl) (by simp) ?_
       refine AllReadyH.cons rfl (fun K hK => ?_) AllReadyH.nil
       rw [if_pos (by rfl)]
       simp only [List.getElem_toArray, List.getElem_cons_zero, List.getElem_cons_succ]
       go_simp
       refine hK.out _ _ hS (fun hS => ?_)
       refine wpAnyH_ready (rs := [11]) (by kernel_rfl) (by simp) ?_
       refine AllReadyH.cons rfl (fun K hK => ?_) AllReadyH.nil
       rw [if_pos (by rfl)]
       simp only [List.getElem_toArray, List.getElem_cons_zero, List.getElem_cons_succ]
       go_simp
       refine hK.out _ _ hS (fun hS => ?_)
       refine wpAnyH_take (i := 12) (v := .agg #[(.slice av67x nv67x pv67x), (.slice av67y nv67y pv67y), (.bool false)]) rfl (by kernel_rfl) (by kernel_rfl) (by kernel_rfl) (fun _ _ _ h => h) (yieldsIf_load_mid (by rfl) 29 _ rfl g16 0 rfl [(.slice av67x nv67x pv67x), (.slice av67y nv67y pv67y), (.bool false)] _ (fun W_ hW_ => Rw.range (hW_.2.2.1) 0 _ fun j_ v_ hv_ => by rwa [Nat.zero_add]) Tryd.underlying29 rfl size_pt) hS ?_
       simp only [List.getElem_toArray, List.getElem_cons_zero, List.getElem_cons_succ, Act.put, List.setIfInBounds_toArray, List.set_cons_zero, List.set_cons_succ]
       refine wpAnyH_take (i := 13) (v := .agg #[(.slice av39x nv39x pv39x), (.slice av39y nv39y pv39y), (.bool false)]) rfl (by kernel_rfl) (by kernel_rfl) (by kernel_rfl) (fun _ _ _ h => h) (yieldsIf_load_mid (by rfl) 29 _ rfl g9 0 rfl [(.slice av39x nv39x pv39x), (.slice av39y nv39y pv39y), (.bool false)] _ (fun W_ hW_ => Rw.range (hW_.1) 0 _ fun j_ v_ hv_ => by rwa [Nat.zero_add]) Tryd.underlying29 rfl size_pt) hS ?_
       simp only [List.getElem_toArray, List.getElem_cons_zero, List.getElem_cons_succ, Act.put, List.setIfInBounds_toArray, List.set_cons_zero, List.set_cons_succ]
       have h_ := one_c ⟨_, _, rfl, c67x, c67y⟩ ⟨_, _, rfl, c39x, c39y⟩
       rw [show decide (P.1.val = P.1.val ∧ P.2.val = P.2.val) = true from decide_eq_true ⟨rfl, rfl⟩] at h_
       refine wpAnyH_ready (rs := [14]) (by kernel_rfl) (by simp) ?_
       refine AllReadyH.cons rfl (fun K hK => ?_) AllReadyH.nil
       rw [if_pos (by rfl)]
       simp only [List.getElem_toArray, List.getElem_cons_zero, List.getElem_cons_succ]
       go_simp
       refine (h_).mono ?_; rintro e_ w32 ⟨rfl, hb⟩
       dsimp only
       replace hB := hB.trans (hb.mono hB.size)
       replace c39x := c39x.below hb
       replace c39y := c39y.below hb
       replace hk9 := hk9.keep hb
       replace c47x := c47x.below hb
       replace c47y := c47y.below hb
       replace hk10 := hk10.keep hb
       replace c53x := c53x.below hb
       replace c53y := c53y.below hb
       replace hk12 := hk12.keep hb
       replace hk14 := hk14.keep hb
       replace c14x := c14x.below hb
       replace c14y := c14y.below hb
       replace c65 := c65.below hb
       replace c67x := c67x.below hb
       replace c67y := c67y.below hb
       replace hk16 := hk16.keep hb
       replace c72x := c72x.below hb
       replace c72y := c72y.below hb
       replace hk18 := hk18.keep hb
       replace n86 := n86.below hb
       replace c135x := c135x.below hb
       replace c135y := c135y.below hb
       replace hk20 := hk20.keep hb
       clear hb h_
       refine hK.out _ _ ⟨hk9, hk14, hk16, hk18, hk20⟩ (fun hS => ?_)
       refine wpAnyH_ready (rs := [15]) (by kernel_rfl) (by simp) ?_
       refine AllReadyH.cons rfl (fun K hK => ?_) AllReadyH.nil
       rw [if_pos (by rfl)]
       simp only [List.getElem_toArray, List.getElem_cons_zero, List.getElem_cons_succ]
       go_simp
       refine hK.out _ _ hS (fun hS => ?_)
       refine wpAnyH_ready (rs := [16]) (by kernel_rfl) (by simp) ?_
       refine AllReadyH.cons rfl (fun K hK => ?_) AllReadyH.nil
       rw [if_pos (by rfl)]
       simp only [List.getElem_toArray, List.getElem_cons_zero, List.getElem_cons_succ]
       go_simp
       refine hK.out _ _ hS (fun hS => ?_)
       refine wpAnyH_take (i := 17) (v := .agg #[(.slice av72x nv72x pv72x), (.slice av72y nv72y pv72y), (.bool false)]) rfl (by kernel_rfl) (by kernel_rfl) (by kernel_rfl) (fun _ _ _ h => h) (yieldsIf_load_mid (by rfl) 29 _ rfl g18 0 rfl [(.slice av72x nv72x pv72x), (.slice av72y nv72y pv72y), (.bool false)] _ (fun W_ hW_ => Rw.range (hW_.2.2.2.1) 0 _ fun j_ v_ hv_ => by rwa [Nat.zero_add]) Tryd.underlying29 rfl size_pt) hS ?_
       simp only [List.getElem_toArray, List.getElem_cons_zero, List.getElem_cons_succ, Act.put, List.setIfInBounds_toArray, List.set_cons_zero, List.set_cons_succ]
       refine wpAnyH_ready (rs := [18]) (by kernel_rfl) (by simp) ?_
       refine AllReadyH.cons rfl (fun K hK => ?_) AllReadyH.nil
       rw [if_pos (by rfl)]
       simp only [List.getElem_toArray, List.getElem_cons_zero, List.getElem_cons_succ]
       go_simp
       refine (zero_c w32).mono ?_; rintro e_ w33 ⟨v156, rfl, hp_, hb⟩
       dsimp only
       obtain ⟨z156x, z156y, rfl, c156x, c156y⟩ := hp_
       replace hB := hB.trans (hb.mono hB.size)
       replace c39x := c39x.below hb
       replace c39y := c39y.below hb
       replace hk9 := hk9.keep hb
       replace c47x := c47x.below hb
       replace c47y := c47y.below hb
       replace hk10 := hk10.keep hb
       replace c53x := c53x.below hb
       replace c53y := c53y.below hb
       replace hk12 := hk12.keep hb
       replace hk14 := hk14.keep hb
       replace c14x := c14x.below hb
       replace c14y := c14y.below hb
       replace c65 := c65.below hb
       replace c67x := c67x.below hb
       replace c67y := c67y.below hb
       replace hk16 := hk16.keep hb
       replace c72x := c72x.below hb
       replace c72y := c72y.below hb
       replace hk18 := hk18.keep hb
       replace n86 := n86.below hb
       replace c135x := c135x.below hb
       replace c135y := c135y.below hb
       replace hk20 := hk20.keep hb
       clear hb
       refine hK.out _ _ ⟨hk9, hk14, hk16, hk18, hk20⟩ (fun hS => ?_)
       have h_ := one_c ⟨_, _, rfl, c72x, c72y⟩ ⟨_, _, rfl, c156x, c156y⟩
       rw [show decide (eO.1.val = eO.1.val ∧ eO.2.val = eO.2.val) = true from decide_eq_true ⟨rfl, rfl⟩] at h_
       refine wpAnyH_ready (rs := [19]) (by kernel_rfl) (by simp) ?_
       refine AllReadyH.cons rfl (fun K hK => ?_) AllReadyH.nil
       rw [if_pos (by rfl)]
       simp only [List.getElem_toArray, List.getElem_cons_zero, List.getElem_cons_succ]
       go_simp
       refine (h_).mono ?_; rintro e_ w34 ⟨rfl, hb⟩
       dsimp only
       replace hB := hB.trans (hb.mono hB.size)
       replace c39x := c39x.below hb
       replace c39y := c39y.below hb
       replace hk9 := hk9.keep hb
       replace c47x := c47x.below hb
       replace c47y := c47y.below hb
       replace hk10 := hk10.keep hb
       replace c53x := c53x.below hb
       replace c53y := c53y.below hb
       replace hk12 := hk12.keep hb
       replace hk14 := hk14.keep hb
       replace c14x := c14x.below hb
       replace c14y := c14y.below hb
       replace c65 := c65.below hb
       replace c67x := c67x.below hb
       replace c67y := c67y.below hb
       replace hk16 := hk16.keep hb
       replace c72x := c72x.below hb
       replace c72y := c72y.below hb
       replace hk18 := hk18.keep hb
       replace n86 := n86.below hb
       replace c135x := c135x.below hb
       replace c135y := c135y.below hb
       replace hk20 := hk20.keep hb
       replace c156x := c156x.below hb
       replace c156y := c156y.below hb
       clear hb h_
       refine hK.out _ _ ⟨hk9, hk14, hk16, hk18, hk20⟩ (fun hS => ?_)
       refine wpAnyH_ready (rs := [20]) (by kernel_rfl) (by simp) ?_
       refine AllReadyH.cons rfl (fun K hK => ?_) AllReadyH.nil
       rw [if_pos (by rfl)]
       simp only [List.getElem_toArray, List.getElem_cons_zero, List.getElem_cons_succ]
       go_simp
       refine hK.out _ _ hS (fun hS => ?_)
       refine wpAnyH_ready (rs := [21]) (by kernel_rfl) (by simp) ?_
       refine AllReadyH.cons rfl (fun K hK => ?_) AllReadyH.nil
       rw [if_pos (by rfl)]
       simp only [List.getElem_toArray, List.getElem_cons_zero, List.getElem_cons_succ]
       go_simp
       refine hK.out _ _ hS (fun hS => ?_)
       refine wpAnyH_done (by kernel_rfl) ?_ _
       clear hS
       go_wp2_with fail
       go_ret
       exact ⟨by first | done | rfl | simp, hB⟩
      ·
       have hdK : decide ((1024 : Int) < (bK : Int)) = false := decide_eq_false (by omega)
       have hm_ : mulA K P.1.val P.2.val false = ptA (eMul K P) := mulA_yes OP.out (by rw [← HKb.out]; omega)
       obtain rfl : cK = 0 := by rw [← HcK.out, ← HrK.out, hm_]; rfl
       clear hm_
       have hdL : decide ((1024 : Int) < (bL : Int)) = false := decide_eq_false (by omega)
       have hm_ : mulA L P.1.val P.2.val false = ptA (eMul L P) := mulA_yes OP.out (by rw [← HLb.out]; omega)
       obtain rfl : cL = 0 := by rw [← HcL.out, ← HrL.out, hm_]; rfl
       clear hm_
       have hdS : decide ((1024 : Int) < (bS : Int)) = true := decide_eq_true (by omega)
       have hm_ : mulA S P.1.val P.2.val false = noA 10 := mulA_not OP.out (by rw [← HSb.out]; omega)
       obtain rfl : cS = 10 := by rw [← HcS.out, ← HrS.out, hm_]; rfl
       clear hm_
       clear hle qK qL qS
       clear c39x
       clear c39y
       clear hk9
       clear c47x
       clear c47y
       clear hk10
       clear c53x
       clear c53y
       clear hk12
       clear hk14
       clear c14x
       clear c14y
       clear c65
       clear c67x
       clear c67y
       clear hk16
       clear c72x
       clear c72y
       clear hk18
       go_wp2_with fail
       refine (BK _ hB).mono ?_; rintro e_ w25 ⟨rfl, rfl⟩
       go_wp2_with fail
       refine (BL _ hB).mono ?_; rintro e_ w25 ⟨rfl, rfl⟩
       go_wp2_with fail
       refine (AD _ hB).mono ?_; rintro e_ w25 ⟨v86, rfl, hn, hb⟩
       have n86 := hn.num slim (by omega)
       clear hn
       replace hB := hB.trans (hb.mono hB.size)
       clear hb
       go_wp2_with fail
       refine (BS _ _ n86).mono ?_; rintro e_ w26 ⟨rfl, rfl⟩
       go_wp2_with fail
       refine (BK _ hB).mono ?_; rintro e_ w26 ⟨rfl, rfl⟩
       go_wp2_with fail
       refine (BL _ hB).mono ?_; rintro e_ w26 ⟨rfl, rfl⟩
       go_wp2_with fail
       refine (AD _ hB).mono ?_; rintro e_ w26 ⟨v109, rfl, hn, hb⟩
       have n109 := hn.num slim (by omega)
       clear hn
       replace hB := hB.trans (hb.mono hB.size)
       replace n86 := n86.below hb
       clear hb
       go_wp2_with fail
       refine (BS _ _ n109).mono ?_; rintro e_ w27 ⟨rfl, rfl⟩
       go_wp2_with fail
       go_ret
       exact ⟨by first | done | rfl | simp, hB⟩
     ·
      have hdK : decide ((1024 : Int) < (bK : Int)) = false := decide_eq_false (by omega)
      have hm_ : mulA K P.1.val P.2.val false = ptA (eMul K P) := mulA_yes OP.out (by rw [← HKb.out]; omega)
      obtain rfl : cK = 0 := by rw [← HcK.out, ← HrK.out, hm_]; rfl
      clear hm_
      have hdL : decide ((1024 : Int) < (bL : Int)) = true := decide_eq_true (by omega)
      have hm_ : mulA L P.1.val P.2.val false = noA 10 := mulA_not OP.out (by rw [← HLb.out]; omega)
      obtain rfl : cL = 10 := by rw [← HcL.out, ← HrL.out, hm_]; rfl
      clear hm_
      have hdS : decide ((1024 : Int) < (bS : Int)) = true := decide_eq_true (by omega)
      have hm_ : mulA S P.1.val P.2.val false = noA 10 := mulA_not OP.out (by rw [← HSb.out]; omega)
      obtain rfl : cS = 10 := by rw [← HcS.out, ← HrS.out, hm_]; rfl
      clear hm_
      clear hle qK qL
      clear c39x
      clear c39y
      clear hk9
      clear c47x
      clear c47y
      clear hk10
      clear c53x
      clear c53y
      clear hk12
      clear hk14
      clear c14x
      clear c14y
      clear c65
      clear c67x
      clear c67y
      clear hk16
      clear c72x
      clear c72y
      clear hk18
      go_wp2_with fail
      refine (BK _ hB).mono ?_; rintro e_ w25 ⟨rfl, rfl⟩
      go_wp2_with fail
      refine (BL _ hB).mono ?_; rintro e_ w25 ⟨rfl, rfl⟩
      go_wp2_with fail
      refine (BK _ hB).mono ?_; rintro e_ w25 ⟨rfl, rfl⟩
      go_wp2_with fail
      refine (BL _ hB).mono ?_; rintro e_ w25 ⟨rfl, rfl⟩
      go_wp2_with fail
      refine (AD _ hB).mono ?_; rintro e_ w25 ⟨v109, rfl, hn, hb⟩
      have n109 := hn.num slim (by omega)
      clear hn
      replace hB := hB.trans (hb.mono hB.size)
      clear hb
      go_wp2_with fail
      refine (BS _ _ n109).mono ?_; rintro e_ w26 ⟨rfl, rfl⟩
      go_wp2_with fail
      go_ret
      exact ⟨by first | done | rfl | simp, hB⟩
    ·
     by_cases qL : bL ≤ 1024
     ·
      have hdK : decide ((1024 : Int) < (bK : Int)) = true := decide_eq_true (by omega)
      have hm_ : mulA K P.1.val P.2.val false = noA 10 := mulA_not OP.out (by rw [← HKb.out]; omega)
      obtain rfl : cK = 10 := by rw [← HcK.out, ← HrK.out, hm_]; rfl
      clear hm_
      have hdL : decide ((1024 : Int) < (bL : Int)) = false := decide_eq_false (by omega)
      have hm_ : mulA L P.1.val P.2.val false = ptA (eMul L P) := mulA_yes OP.out (by rw [← HLb.out]; omega)
      obtain rfl : cL = 0 := by rw [← HcL.out, ← HrL.out, hm_]; rfl
      clear hm_
      have hdS : decide ((1024 : Int) < (bS : Int)) = true := decide_eq_true (by omega)
      have hm_ : mulA S P.1.val P.2.val false = noA 10 := mulA_not OP.out (by rw [← HSb.out]; omega)
      obtain rfl : cS = 10 := by rw [← HcS.out, ← HrS.out, hm_]; rfl
      clear hm_
      clear hle qK qL
      clear c39x
      clear c39y
      clear hk9
      clear c47x
      clear c47y
      clear hk10
      clear c53x
      clear c53y
      clear hk12
      clear hk14
      clear c14x
      clear c14y
      clear c65
      clear c67x
      clear c67y
      clear hk16
      clear c72x
      clear c72y
      clear hk18
      go_wp2_with fail
      refine (BK _ hB).mono ?_; rintro e_ w25 ⟨rfl, rfl⟩
      go_wp2_with fail
      refine (BK _ hB).mono ?_; rintro e_ w25 ⟨rfl, rfl⟩
      go_wp2_with fail
      refine (BL _ hB).mono ?_; rintro e_ w25 ⟨rfl, rfl⟩
      go_wp2_with fail
      refine (AD _ hB).mono ?_; rintro e_ w25 ⟨v109, rfl, hn, hb⟩
      have n109 := hn.num slim (by omega)
      clear hn
      replace hB := hB.trans (hb.mono hB.size)
      clear hb
      go_wp2_with fail
      refine (BS _ _ n109).mono ?_; rintro e_ w26 ⟨rfl, rfl⟩
      go_wp2_with fail
      go_ret
      exact ⟨by first | done | rfl | simp, hB⟩
     ·
      have hdK : decide ((1024 : Int) < (bK : Int)) = true := decide_eq_true (by omega)
      have hm_ : mulA K P.1.val P.2.val false = noA 10 := mulA_not OP.out (by rw [← HKb.out]; omega)
      obtain rfl : cK = 10 := by rw [← HcK.out, ← HrK.out, hm_]; rfl
      clear hm_
      have hdL : decide ((1024 : Int) < (bL : Int)) = true := decide_eq_true (by omega)
      have hm_ : mulA L P.1.val P.2.val false = noA 10 := mulA_not OP.out (by rw [← HLb.out]; omega)
      obtain rfl : cL = 10 := by rw [← HcL.out, ← HrL.out, hm_]; rfl
      clear hm_
      have hdS : decide ((1024 : Int) < (bS : Int)) = true := decide_eq_true (by omega)
      have hm_ : mulA S P.1.val P.2.val false = noA 10 := mulA_not OP.out (by rw [← HSb.out]; omega)
      obtain rfl : cS = 10 := by rw [← HcS.out, ← HrS.out, hm_]; rfl
      clear hm_
      clear hle qK qL
      clear c39x
      clear c39y
      clear hk9
      clear c47x
      clear c47y
      clear hk10
      clear c53x
      clear c53y
      clear hk12
      clear hk14
      clear c14x
      clear c14y
      clear c65
      clear c67x
      clear c67y
      clear hk16
      clear c72x
      clear c72y
      clear hk18
      go_wp2_with fail
      refine (BK _ hB).mono ?_; rintro e_ w25 ⟨rfl, rfl⟩
      go_wp2_with fail
      refine (BK _ hB).mono ?_; rintro e_ w25 ⟨rfl, rfl⟩
      go_wp2_with fail
      refine (BL _ hB).mono ?_; rintro e_ w25 ⟨rfl, rfl⟩
      go_wp2_with fail
      refine (AD _ hB).mono ?_; rintro e_ w25 ⟨v109, rfl, hn, hb⟩
      have n109 := hn.num slim (by omega)
      clear hn
      replace hB := hB.trans (hb.mono hB.size)
      clear hb
      go_wp2_with fail
      refine (BS _ _ n109).mono ?_; rintro e_ w26 ⟨rfl, rfl⟩
      go_wp2_with fail
      go_ret
      exact ⟨by first | done | rfl | simp, hB⟩
end Go.Proofs.YtlolkighnnedfaaDoor
