import Derived.Test.YtlolkighnnedfaaDoorZ21
/- package ed: spots: twice, plus, point, spotOf, by contracts. (Printed by gen_edpb.py.) -/
set_option linter.unusedVariables false
set_option linter.unusedSimpArgs false
namespace Go.Proofs.YtlolkighnnedfaaDoor
open Go.RowKit Go.Sg
theorem size_spot : (Tryd.prog.info? 67).map (·.size) = some 4 := by kernel_rfl
theorem size_pt : (Tryd.prog.info? 29).map (·.size) = some 3 := by kernel_rfl

set_option maxHeartbeats 4000000 in
set_option maxRecDepth 20000 in
theorem plus_c {va vb : Value} {a b : Sp} {w : World} (ha : SpAt w va a) (hb_ : SpAt w vb b) (tP : TabAt w 0 limbP) (tD : TabAt w 3 limbD) :
    Calls Tryd.prog 56 #[va, vb] w (SpPost (a.plus b) w) := by
  obtain ⟨vax, vay, vaz, vat, rfl, cax, cay, caz, cat⟩ := ha
  obtain ⟨vbx, vby, vbz, vbt, rfl, cbx, cby, cbz, cbt⟩ := hb_
  go_enter Tryd.func56, Tryd.ntmps56
  have hB := Below.refl w.heap.size w
  go_wp2_with (refine wpList_box_agg rfl 67 _ rfl [vax, vay, vaz, vat] rfl ?_)
  intro w1 hk2 hb
  have hz_ := hB.size
  replace hB := hB.trans (hb.mono hB.size)
  clear hb
  obtain ⟨g2, hg_⟩ : ∃ g, g = w.heap.size := ⟨_, rfl⟩
  rw [← hg_] at hk2 ⊢
  have HG2 : Hid (w.heap.size ≤ g2) := Lib.hid (by rw [hg_]; exact hz_)
  clear hg_ hz_
  go_wp2_with (refine wpList_box_agg rfl 67 _ rfl [vbx, vby, vbz, vbt] rfl ?_)
  intro w2 hk3 hb
  have hz_ := hB.size
  have lt2_ := hk2.lt
  replace hB := hB.trans (hb.mono hB.size)
  replace hk2 := hk2.keep hb
  clear hb
  obtain ⟨g3, hg_⟩ : ∃ g, g = w1.heap.size := ⟨_, rfl⟩
  rw [← hg_] at hk3 ⊢
  have HG3 : Hid (w.heap.size ≤ g3) := Lib.hid (by rw [hg_]; exact hz_)
  have NE2_3 : Hid (g2 ≠ g3) := Lib.hid (by rw [hg_]; exact Nat.ne_of_lt lt2_)
  clear hg_ hz_ lt2_
  go_wp2_with (refine wpList_alloc_agg rfl 67 rfl [(.slice none 0 0), (.slice none 0 0), (.slice none 0 0), (.slice none 0 0)] 4 (by kernel_rfl) ?_)
  intro w3 hk4 hb
  have hz_ := hB.size
  have lt2_ := hk2.lt
  have lt3_ := hk3.lt
  replace hB := hB.trans (hb.mono hB.size)
  replace hk2 := hk2.keep hb
  replace hk3 := hk3.keep hb
  clear hb
  obtain ⟨g4, hg_⟩ : ∃ g, g = w2.heap.size := ⟨_, rfl⟩
  rw [← hg_] at hk4 ⊢
  have HG4 : Hid (w.heap.size ≤ g4) := Lib.hid (by rw [hg_]; exact hz_)
  have NE2_4 : Hid (g2 ≠ g4) := Lib.hid (by rw [hg_]; exact Nat.ne_of_lt lt2_)
  have NE3_4 : Hid (g3 ≠ g4) := Lib.hid (by rw [hg_]; exact Nat.ne_of_lt lt3_)
  clear hg_ hz_ lt2_ lt3_
  go_wp2_with fail
  refine wp_region_held_drew (S := fun W_ => Rw W_ g2 67 [vax, vay, vaz, vat] ∧ Rw W_ g3 67 [vbx, vby, vbz, vbt]) (by kernel_rfl) (⟨hk2, hk3⟩) (fun hS => ?_)
  have hb := below_drewN (Below.refl w3.heap.size w3) 1
  obtain ⟨w4, hw_⟩ : ∃ x, x = World.drew w3 := ⟨_, rfl⟩
  rw [show World.drewN w3 1 = w4 from hw_.symm] at hb
  rw [← hw_] at hS ⊢
  clear hw_
  replace hB := hB.trans (hb.mono hB.size)
  replace hk2 := hk2.keep hb
  replace hk3 := hk3.keep hb
  replace hk4 := hk4.keep hb
  clear hb
  refine wpAnyH_take (i := 0) (v := ?_) rfl (by kernel_rfl) (by kernel_rfl) (by kernel_rfl) (fun _ _ _ h => h) (Or.inl ⟨by rfl, ?_⟩) hS ?_
  rotate_left
  · intro w _; go_simp; try with_reducible rfl
  simp only [List.getElem_toArray, List.getElem_cons_zero, List.getElem_cons_succ, Act.put, List.setIfInBounds_toArray, List.set_cons_zero, List.set_cons_succ]
  refine wpAnyH_take (i := 1) (v := ?_) rfl (by kernel_rfl) (by kernel_rfl) (by kernel_rfl) (fun _ _ _ h => h) (Or.inl ⟨by rfl, ?_⟩) hS ?_
  rotate_left
  · intro W_ hW_; have c_ := Rw.cell (hW_.1) 1 rfl; go_simp; try with_reducible rfl
  simp only [List.getElem_toArray, List.getElem_cons_zero, List.getElem_cons_succ, Act.put, List.setIfInBounds_toArray, List.set_cons_zero, List.set_cons_succ]
  refine wpAnyH_take (i := 2) (v := ?_) rfl (by kernel_rfl) (by kernel_rfl) (by kernel_rfl) (fun _ _ _ h => h) (Or.inl ⟨by rfl, ?_⟩) hS ?_
  rotate_left
  · intro w _; go_simp; try with_reducible rfl
  simp only [List.getElem_toArray, List.getElem_cons_zero, List.getElem_cons_succ, Act.put, List.setIfInBounds_toArray, List.set_cons_zero, List.set_cons_succ]
  refine wpAnyH_take (i := 3) (v := ?_) rfl (by kernel_rfl) (by kernel_rfl) (by kernel_rfl) (fun _ _ _ h => h) (Or.inl ⟨by rfl, ?_⟩) hS ?_
  rotate_left
  · intro W_ hW_; have c_ := Rw.cell (hW_.1) 0 rfl; go_simp; try with_reducible rfl
  simp only [List.getElem_toArray, List.getElem_cons_zero, List.getElem_cons_succ, Act.put, List.setIfInBounds_toArray, List.set_cons_zero, List.set_cons_succ]
  refine wpAnyH_take (i := 5) (v := ?_) rfl (by kernel_rfl) (by kernel_rfl) (by kernel_rfl) (fun _ _ _ h => h) (Or.inl ⟨by rfl, ?_⟩) hS ?_
  rotate_left
  · intro w _; go_simp; try with_reducible rfl
  simp only [List.getElem_toArray, List.getElem_cons_zero, List.getElem_cons_succ, Act.put, List.setIfInBounds_toArray, List.set_cons_zero, List.set_cons_succ]
  refine wpAnyH_take (i := 6) (v := ?_) rfl (by kernel_rfl) (by kernel_rfl) (by kernel_rfl) (fun _ _ _ h => h) (Or.inl ⟨by rfl, ?_⟩) hS ?_
  rotate_left
  · intro W_ hW_; have c_ := Rw.cell (hW_.2) 1 rfl; go_simp; try with_reducible rfl
  simp only [List.getElem_toArray, List.getElem_cons_zero, List.getElem_cons_succ, Act.put, List.setIfInBounds_toArray, List.set_cons_zero, List.set_cons_succ]
  refine wpAnyH_take (i := 7) (v := ?_) rfl (by kernel_rfl) (by kernel_rfl) (by kernel_rfl) (fun _ _ _ h => h) (Or.inl ⟨by rfl, ?_⟩) hS ?_
  rotate_left
  · intro w _; go_simp; try with_reducible rfl
  simp only [List.getElem_toArray, List.getElem_cons_zero, List.getElem_cons_succ, Act.put, List.setIfInBounds_toArray, List.set_cons_zero, List.set_cons_succ]
  refine wpAnyH_take (i := 8) (v := ?_) rfl (by kernel_rfl) (by kernel_rfl) (by kernel_rfl) (fun _ _ _ h => h) (Or.inl ⟨by rfl, ?_⟩) hS ?_
  rotate_left
  · intro W_ hW_; have c_ := Rw.cell (hW_.2) 0 rfl; go_simp; try with_reducible rfl
  simp only [List.getElem_toArray, List.getElem_cons_zero, List.getElem_cons_succ, Act.put, List.setIfInBounds_toArray, List.set_cons_zero, List.set_cons_succ]
  refine wpAnyH_ready (rs := [4]) (by kernel_rfl) (by simp) ?_
  refine AllReadyH.cons rfl (fun K hK => ?_) AllReadyH.nil
  rw [if_pos (by rfl)]
  simp only [List.getElem_toArray, List.getElem_cons_zero, List.getElem_cons_succ]
  go_simp
  refine (sub_f (cay.below hB).num (cax.below hB).num (tP.below hB)).mono ?_; rintro e_ w5 ⟨v17, rfl, hn, hb⟩
  dsimp only
  have c17 := hn.fp
  replace hB := hB.trans (hb.mono hB.size)
  replace hk2 := hk2.keep hb
  replace hk3 := hk3.keep hb
  replace hk4 := hk4.keep hb
  clear hb hn
  refine hK.out _ _ ⟨hk2, hk3⟩ (fun hS => ?_)
  refine wpAnyH_ready (rs := [9]) (by kernel_rfl) (by simp) ?_
  refine AllReadyH.cons rfl (fun K hK => ?_) AllReadyH.nil
  rw [if_pos (by rfl)]
  simp only [List.getElem_toArray, List.getElem_cons_zero, List.getElem_cons_succ]
  go_simp
  refine (sub_f (cby.below hB).num (cbx.below hB).num (tP.below hB)).mono ?_; rintro e_ w6 ⟨v22, rfl, hn, hb⟩
  dsimp only
  have c22 := hn.fp
  replace hB := hB.trans (hb.mono hB.size)
  replace hk2 := hk2.keep hb
  replace hk3 := hk3.keep hb
  replace hk4 := hk4.keep hb
  replace c17 := c17.below hb
  clear hb hn
  refine hK.out _ _ ⟨hk2, hk3⟩ (fun hS => ?_)
  refine wpAnyH_ready (rs := [10]) (by kernel_rfl) (by simp) ?_
  refine AllReadyH.cons rfl (fun K hK => ?_) AllReadyH.nil
  rw [if_pos (by rfl)]
  simp only [List.getElem_toArray, List.getElem_cons_zero, List.getElem_cons_succ]
  go_simp
  refine (mul_f c17.num c22.num (tP.below hB)).mono ?_; rintro e_ w7 ⟨v23, rfl, hn, hb⟩
  dsimp only
  have c23 := hn.fp
  replace hB := hB.trans (hb.mono hB.size)
  replace hk2 := hk2.keep hb
  replace hk3 := hk3.keep hb
  replace hk4 := hk4.keep hb
  replace c17 := c17.below hb
  replace c22 := c22.below hb
  clear hb hn
  refine hK.out _ _ ⟨hk2, hk3⟩ (fun hS => ?_)
  refine wpAnyH_ready (rs := [11]) (by kernel_rfl) (by simp) ?_
  refine AllReadyH.cons rfl (fun K hK => ?_) AllReadyH.nil
  rw [if_pos (by rfl)]
  simp only [List.getElem_toArray, List.getElem_cons_zero, List.getElem_cons_succ]
  go_simp
  refine hK.out _ _ hS (fun hS => ?_)
  refine wpAnyH_done (by kernel_rfl) ?_ _
  clear hS
  go_wp2_with fail
  refine wp_region_held_drew (S := fun W_ => Rw W_ g2 67 [vax, vay, vaz, vat] ∧ Rw W_ g3 67 [vbx, vby, vbz, vbt]) (by kernel_rfl) (⟨hk2, hk3⟩) (fun hS => ?_)
  have hb := below_drewN (Below.refl w7.heap.size w7) 1
  obtain ⟨w8, hw_⟩ : ∃ x, x = World.drew w7 := ⟨_, rfl⟩
  rw [show World.drewN w7 1 = w8 from hw_.symm] at hb
  rw [← hw_] at hS ⊢
  clear hw_
  replace hB := hB.trans (hb.mono hB.size)
  replace hk2 := hk2.keep hb
  replace hk3 := hk3.keep hb
  replace hk4 := hk4.keep hb
  replace c17 := c17.below hb
  replace c22 := c22.below hb
  replace c23 := c23.below hb
  clear hb
  refine wpAnyH_take (i := 0) (v := ?_) rfl (by kernel_rfl) (by kernel_rfl) (by kernel_rfl) (fun _ _ _ h => h) (Or.inl ⟨by rfl, ?_⟩) hS ?_
  rotate_left
  · intro w _; go_simp; try with_reducible rfl
  simp only [List.getElem_toArray, List.getElem_cons_zero, List.getElem_cons_succ, Act.put, List.setIfInBounds_toArray, List.set_cons_zero, List.set_cons_succ]
  refine wpAnyH_take (i := 1) (v := ?_) rfl (by kernel_rfl) (by kernel_rfl) (by kernel_rfl) (fun _ _ _ h => h) (Or.inl ⟨by rfl, ?_⟩) hS ?_
  rotate_left
  · intro W_ hW_; have c_ := Rw.cell (hW_.1) 1 rfl; go_simp; try with_reducible rfl
  simp only [List.getElem_toArray, List.getElem_cons_zero, List.getElem_cons_succ, Act.put, List.setIfInBounds_toArray, List.set_cons_zero, List.set_cons_succ]
  refine wpAnyH_take (i := 2) (v := ?_) rfl (by kernel_rfl) (by kernel_rfl) (by kernel_rfl) (fun _ _ _ h => h) (Or.inl ⟨by rfl, ?_⟩) hS ?_
  rotate_left
  · intro w _; go_simp; try with_reducible rfl
  simp only [List.getElem_toArray, List.getElem_cons_zero, List.getElem_cons_succ, Act.put, List.setIfInBounds_toArray, List.set_cons_zero, List.set_cons_succ]
  refine wpAnyH_take (i := 3) (v := ?_) rfl (by kernel_rfl) (by kernel_rfl) (by kernel_rfl) (fun _ _ _ h => h) (Or.inl ⟨by rfl, ?_⟩) hS ?_
  rotate_left
  · intro W_ hW_; have c_ := Rw.cell (hW_.1) 0 rfl; go_simp; try with_reducible rfl
  simp only [List.getElem_toArray, List.getElem_cons_zero, List.getElem_cons_succ, Act.put, List.setIfInBounds_toArray, List.set_cons_zero, List.set_cons_succ]
  refine wpAnyH_take (i := 5) (v := ?_) rfl (by kernel_rfl) (by kernel_rfl) (by kernel_rfl) (fun _ _ _ h => h) (Or.inl ⟨by rfl, ?_⟩) hS ?_
  rotate_left
  · intro w _; go_simp; try with_reducible rfl
  simp only [List.getElem_toArray, List.getElem_cons_zero, List.getElem_cons_succ, Act.put, List.setIfInBounds_toArray, List.set_cons_zero, List.set_cons_succ]
  refine wpAnyH_take (i := 6) (v := ?_) rfl (by kernel_rfl) (by kernel_rfl) (by kernel_rfl) (fun _ _ _ h => h) (Or.inl ⟨by rfl, ?_⟩) hS ?_
  rotate_left
  · intro W_ hW_; have c_ := Rw.cell (hW_.2) 1 rfl; go_simp; try with_reducible rfl
  simp only [List.getElem_toArray, List.getElem_cons_zero, List.getElem_cons_succ, Act.put, List.setIfInBounds_toArray, List.set_cons_zero, List.set_cons_succ]
  refine wpAnyH_take (i := 7) (v := ?_) rfl (by kernel_rfl) (by kernel_rfl) (by kernel_rfl) (fun _ _ _ h => h) (Or.inl ⟨by rfl, ?_⟩) hS ?_
  rotate_left
  · intro w _; go_simp; try with_reducible rfl
  simp only [List.getElem_toArray, List.getElem_cons_zero, List.getElem_cons_succ, Act.put, List.setIfInBounds_toArray, List.set_cons_zero, List.set_cons_succ]
  refine wpAnyH_take (i := 8) (v := ?_) rfl (by kernel_rfl) (by kernel_rfl) (by kernel_rfl) (fun _ _ _ h => h) (Or.inl ⟨by rfl, ?_⟩) hS ?_
  rotate_left
  · intro W_ hW_; have c_ := Rw.cell (hW_.2) 0 rfl; go_simp; try with_reducible rfl
  simp only [List.getElem_toArray, List.getElem_cons_zero, List.getElem_cons_succ, Act.put, List.setIfInBounds_toArray, List.set_cons_zero, List.set_cons_succ]
  refine wpAnyH_ready (rs := [4]) (by kernel_rfl) (by simp) ?_
  refine AllReadyH.cons rfl (fun K hK => ?_) AllReadyH.nil
  rw [if_pos (by rfl)]
  simp only [List.getElem_toArray, List.getElem_cons_zero, List.getElem_cons_succ]
  go_simp
  refine (add_f (cay.below hB).num (cax.below hB).num (tP.below hB)).mono ?_; rintro e_ w9 ⟨v28, rfl, hn, hb⟩
  dsimp only
  have c28 := hn.fp
  replace hB := hB.trans (hb.mono hB.size)
  replace hk2 := hk2.keep hb
  replace hk3 := hk3.keep hb
  replace hk4 := hk4.keep hb
  replace c17 := c17.below hb
  replace c22 := c22.below hb
  replace c23 := c23.below hb
  clear hb hn
  refine hK.out _ _ ⟨hk2, hk3⟩ (fun hS => ?_)
  refine wpAnyH_ready (rs := [9]) (by kernel_rfl) (by simp) ?_
  refine AllReadyH.cons rfl (fun K hK => ?_) AllReadyH.nil
  rw [if_pos (by rfl)]
  simp only [List.getElem_toArray, List.getElem_cons_zero, List.getElem_cons_succ]
  go_simp
  refine (add_f (cby.below hB).num (cbx.below hB).num (tP.below hB)).mono ?_; rintro e_ w10 ⟨v33, rfl, hn, hb⟩
  dsimp only
  have c33 := hn.fp
  replace hB := hB.trans (hb.mono hB.size)
  replace hk2 := hk2.keep hb
  replace hk3 := hk3.keep hb
  replace hk4 := hk4.keep hb
  replace c17 := c17.below hb
  replace c22 := c22.below hb
  replace c23 := c23.below hb
  replace c28 := c28.below hb
  clear hb hn
  refine hK.out _ _ ⟨hk2, hk3⟩ (fun hS => ?_)
  refine wpAnyH_ready (rs := [10]) (by kernel_rfl) (by simp) ?_
  refine AllReadyH.cons rfl (fun K hK => ?_) AllReadyH.nil
  rw [if_pos (by rfl)]
  simp only [List.getElem_toArray, List.getElem_cons_zero, List.getElem_cons_succ]
  go_simp
  refine (mul_f c28.num c33.num (tP.below hB)).mono ?_; rintro e_ w11 ⟨v34, rfl, hn, hb⟩
  dsimp only
  have c34 := hn.fp
  replace hB := hB.trans (hb.mono hB.size)
  replace hk2 := hk2.keep hb
  replace hk3 := hk3.keep hb
  replace hk4 := hk4.keep hb
  replace c17 := c17.below hb
  replace c22 := c22.below hb
  replace c23 := c23.below hb
  replace c28 := c28.below hb
  replace c33 := c33.below hb
  clear hb hn
  refine hK.out _ _ ⟨hk2, hk3⟩ (fun hS => ?_)
  refine wpAnyH_ready (rs := [11]) (by kernel_rfl) (by simp) ?_
  refine AllReadyH.cons rfl (fun K hK => ?_) AllReadyH.nil
  rw [if_pos (by rfl)]
  simp only [List.getElem_toArray, List.getElem_cons_zero, List.getElem_cons_succ]
  go_simp
  refine hK.out _ _ hS (fun hS => ?_)
  refine wpAnyH_done (by kernel_rfl) ?_ _
  clear hS
  have q0_ := hk2.cell 3 rfl
  have q1_ := hk3.cell 3 rfl
  go_wp2_with fail
  refine (mul_f (cat.below hB).num (cbt.below hB).num (tP.below hB)).mono ?_; rintro e_ w12 ⟨v39, rfl, hn, hb⟩
  clear q0_ q1_
  have c39 := hn.fp
  replace hB := hB.trans (hb.mono hB.size)
  replace hk2 := hk2.keep hb
  replace hk3 := hk3.keep hb
  replace hk4 := hk4.keep hb
  replace c17 := c17.below hb
  replace c22 := c22.below hb
  replace c23 := c23.below hb
  replace c28 := c28.below hb
  replace c33 := c33.below hb
  replace c34 := c34.below hb
  clear hb hn
  go_wp2_with fail
  refine (curve_c w12 (tD.below hB)).mono ?_; rintro e_ w13 ⟨v40, rfl, c40, hb⟩
  replace hB := hB.trans (hb.mono hB.size)
  replace hk2 := hk2.keep hb
  replace hk3 := hk3.keep hb
  replace hk4 := hk4.keep hb
  replace c17 := c17.below hb
  replace c22 := c22.below hb
  replace c23 := c23.below hb
  replace c28 := c28.below hb
  replace c33 := c33.below hb
  replace c34 := c34.below hb
  replace c39 := c39.below hb
  clear hb
  go_wp2_with fail
  refine (curve_c w13 (tD.below hB)).mono ?_; rintro e_ w14 ⟨v41, rfl, c41, hb⟩
  replace hB := hB.trans (hb.mono hB.size)
  replace hk2 := hk2.keep hb
  replace hk3 := hk3.keep hb
  replace hk4 := hk4.keep hb
  replace c17 := c17.below hb
  replace c22 := c22.below hb
  replace c23 := c23.below hb
  replace c28 := c28.below hb
  replace c33 := c33.below hb
  replace c34 := c34.below hb
  replace c39 := c39.below hb
  replace c40 := c40.below hb
  clear hb
  go_wp2_with fail
  refine (add_f c40.num c41.num (tP.below hB)).mono ?_; rintro e_ w15 ⟨v42, rfl, hn, hb⟩
  have c42 := hn.fp
  replace hB := hB.trans (hb.mono hB.size)
  replace hk2 := hk2.keep hb
  replace hk3 := hk3.keep hb
  replace hk4 := hk4.keep hb
  replace c17 := c17.below hb
  replace c22 := c22.below hb
  replace c23 := c23.below hb
  replace c28 := c28.below hb
  replace c33 := c33.below hb
  replace c34 := c34.below hb
  replace c39 := c39.below hb
  replace c40 := c40.below hb
  replace c41 := c41.below hb
  clear hb hn
  go_wp2_with fail
  refine (mul_f c39.num c42.num (tP.below hB)).mono ?_; rintro e_ w16 ⟨v43, rfl, hn, hb⟩
  have c43 := hn.fp
  replace hB := hB.trans (hb.mono hB.size)
  replace hk2 := hk2.keep hb
  replace hk3 := hk3.keep hb
  replace hk4 := hk4.keep hb
  replace c17 := c17.below hb
  replace c22 := c22.below hb
  replace c23 := c23.below hb
  replace c28 := c28.below hb
  replace c33 := c33.below hb
  replace c34 := c34.below hb
  replace c39 := c39.below hb
  replace c40 := c40.below hb
  replace c41 := c41.below hb
  replace c42 := c42.below hb
  clear hb hn
  go_wp2_with fail
  refine wp_region_held_drew (S := fun W_ => Rw W_ g2 67 [vax, vay, vaz, vat] ∧ Rw W_ g3 67 [vbx, vby, vbz, vbt]) (by kernel_rfl) (⟨hk2, hk3⟩) (fun hS => ?_)
  have hb := below_drewN (Below.refl w16.heap.size w16) 1
  obtain ⟨w17, hw_⟩ : ∃ x, x = World.drew w16 := ⟨_, rfl⟩
  rw [show World.drewN w16 1 = w17 from hw_.symm] at hb
  rw [← hw_] at hS ⊢
  clear hw_
  replace hB := hB.trans (hb.mono hB.size)
  replace hk2 := hk2.keep hb
  replace hk3 := hk3.keep hb
  replace hk4 := hk4.keep hb
  replace c17 := c17.below hb
  replace c22 := c22.below hb
  replace c23 := c23.below hb
  replace c28 := c28.below hb
  replace c33 := c33.below hb
  replace c34 := c34.below hb
  replace c39 := c39.below hb
  replace c40 := c40.below hb
  replace c41 := c41.below hb
  replace c42 := c42.below hb
  replace c43 := c43.below hb
  clear hb
  refine wpAnyH_take (i := 0) (v := ?_) rfl (by kernel_rfl) (by kernel_rfl) (by kernel_rfl) (fun _ _ _ h => h) (Or.inl ⟨by rfl, ?_⟩) hS ?_
  rotate_left
  · intro w _; go_simp; try with_reducible rfl
  simp only [List.getElem_toArray, List.getElem_cons_zero, List.getElem_cons_succ, Act.put, List.setIfInBounds_toArray, List.set_cons_zero, List.set_cons_succ]
  refine wpAnyH_take (i := 1) (v := ?_) rfl (by kernel_rfl) (by kernel_rfl) (by kernel_rfl) (fun _ _ _ h => h) (Or.inl ⟨by rfl, ?_⟩) hS ?_
  rotate_left
  · intro W_ hW_; have c_ := Rw.cell (hW_.1) 2 rfl; go_simp; try with_reducible rfl
  simp only [List.getElem_toArray, List.getElem_cons_zero, List.getElem_cons_succ, Act.put, List.setIfInBounds_toArray, List.set_cons_zero, List.set_cons_succ]
  refine wpAnyH_take (i := 2) (v := ?_) rfl (by kernel_rfl) (by kernel_rfl) (by kernel_rfl) (fun _ _ _ h => h) (Or.inl ⟨by rfl, ?_⟩) hS ?_
  rotate_left
  · intro w _; go_simp; try with_reducible rfl
  simp only [List.getElem_toArray, List.getElem_cons_zero, List.getElem_cons_succ, Act.put, List.setIfInBounds_toArray, List.set_cons_zero, List.set_cons_succ]
  refine wpAnyH_take (i := 3) (v := ?_) rfl (by kernel_rfl) (by kernel_rfl) (by kernel_rfl) (fun _ _ _ h => h) (Or.inl ⟨by rfl, ?_⟩) hS ?_
  rotate_left
  · intro W_ hW_; have c_ := Rw.cell (hW_.2) 2 rfl; go_simp; try with_reducible rfl
  simp only [List.getElem_toArray, List.getElem_cons_zero, List.getElem_cons_succ, Act.put, List.setIfInBounds_toArray, List.set_cons_zero, List.set_cons_succ]
  refine wpAnyH_take (i := 4) (v := ?_) rfl (by kernel_rfl) (by kernel_rfl) (by kernel_rfl) (fun _ _ _ h => h) (Or.inl ⟨by rfl, ?_⟩) hS ?_
  rotate_left
  · intro w _; go_simp; try with_reducible rfl
  simp only [List.getElem_toArray, List.getElem_cons_zero, List.getElem_cons_succ, Act.put, List.setIfInBounds_toArray, List.set_cons_zero, List.set_cons_succ]
  refine wpAnyH_take (i := 5) (v := ?_) rfl (by kernel_rfl) (by kernel_rfl) (by kernel_rfl) (fun _ _ _ h => h) (Or.inl ⟨by rfl, ?_⟩) hS ?_
  rotate_left
  · intro W_ hW_; have c_ := Rw.cell (hW_.2) 2 rfl; go_simp; try with_reducible rfl
  simp only [List.getElem_toArray, List.getElem_cons_zero, List.getElem_cons_succ, Act.put, List.setIfInBounds_toArray, List.set_cons_zero, List.set_cons_succ]
  refine wpAnyH_ready (rs := [6]) (by kernel_rfl) (by simp) ?_
  refine AllReadyH.cons rfl (fun K hK => ?_) AllReadyH.nil
  rw [if_pos (by rfl)]
  simp only [List.getElem_toArray, List.getElem_cons_zero, List.getElem_cons_succ]
  go_simp
  refine (add_f (cbz.below hB).num (cbz.below hB).num (tP.below hB)).mono ?_; rintro e_ w18 ⟨v50, rfl, hn, hb⟩
  dsimp only
  have c50 := hn.fp
  replace hB := hB.trans (hb.mono hB.size)
  replace hk2 := hk2.keep hb
  replace hk3 := hk3.keep hb
  replace hk4 := hk4.keep hb
  replace c17 := c17.below hb
  replace c22 := c22.below hb
  replace c23 := c23.below hb
  replace c28 := c28.below hb
  replace c33 := c33.below hb
  replace c34 := c34.below hb
  replace c39 := c39.below hb
  replace c40 := c40.below hb
  replace c41 := c41.below hb
  replace c42 := c42.below hb
  replace c43 := c43.below hb
  clear hb hn
  refine hK.out _ _ ⟨hk2, hk3⟩ (fun hS => ?_)
  refine wpAnyH_ready (rs := [7]) (by kernel_rfl) (by simp) ?_
  refine AllReadyH.cons rfl (fun K hK => ?_) AllReadyH.nil
  rw [if_pos (by rfl)]
  simp only [List.getElem_toArray, List.getElem_cons_zero, List.getElem_cons_succ]
  go_simp
  refine (mul_f (caz.below hB).num c50.num (tP.below hB)).mono ?_; rintro e_ w19 ⟨v51, rfl, hn, hb⟩
  dsimp only
  have c51 := hn.fp
  replace hB := hB.trans (hb.mono hB.size)
  replace hk2 := hk2.keep hb
  replace hk3 := hk3.keep hb
  replace hk4 := hk4.keep hb
  replace c17 := c17.below hb
  replace c22 := c22.below hb
  replace c23 := c23.below hb
  replace c28 := c28.below hb
  replace c33 := c33.below hb
  replace c34 := c34.below hb
  replace c39 := c39.below hb
  replace c40 := c40.below hb
  replace c41 := c41.below hb
  replace c42 := c42.below hb
  replace c43 := c43.below hb
  replace c50 := c50.below hb
  clear hb hn
  refine hK.out _ _ ⟨hk2, hk3⟩ (fun hS => ?_)
  refine wpAnyH_ready (rs := [8]) (by kernel_rfl) (by simp) ?_
  refine AllReadyH.cons rfl (fun K hK => ?_) AllReadyH.nil
  rw [if_pos (by rfl)]
  simp only [List.getElem_toArray, List.getElem_cons_zero, List.getElem_cons_succ]
  go_simp
  refine hK.out _ _ hS (fun hS => ?_)
  refine wpAnyH_done (by kernel_rfl) ?_ _
  clear hS
  go_wp2_with fail
  refine (sub_f c34.num c23.num (tP.below hB)).mono ?_; rintro e_ w20 ⟨v54, rfl, hn, hb⟩
  have c54 := hn.fp
  replace hB := hB.trans (hb.mono hB.size)
  replace hk2 := hk2.keep hb
  replace hk3 := hk3.keep hb
  replace hk4 := hk4.keep hb
  replace c17 := c17.below hb
  replace c22 := c22.below hb
  replace c23 := c23.below hb
  replace c28 := c28.below hb
  replace c33 := c33.below hb
  replace c34 := c34.below hb
  replace c39 := c39.below hb
  replace c40 := c40.below hb
  replace c41 := c41.below hb
  replace c42 := c42.below hb
  replace c43 := c43.below hb
  replace c50 := c50.below hb
  replace c51 := c51.below hb
  clear hb hn
  go_wp2_with fail
  refine (sub_f c51.num c43.num (tP.below hB)).mono ?_; rintro e_ w21 ⟨v57, rfl, hn, hb⟩
  have c57 := hn.fp
  replace hB := hB.trans (hb.mono hB.size)
  replace hk2 := hk2.keep hb
  replace hk3 := hk3.keep hb
  replace hk4 := hk4.keep hb
  replace c17 := c17.below hb
  replace c22 := c22.below hb
  replace c23 := c23.below hb
  replace c28 := c28.below hb
  replace c33 := c33.below hb
  replace c34 := c34.below hb
  replace c39 := c39.below hb
  replace c40 := c40.below hb
  replace c41 := c41.below hb
  replace c42 := c42.below hb
  replace c43 := c43.below hb
  replace c50 := c50.below hb
  replace c51 := c51.below hb
  replace c54 := c54.below hb
  clear hb hn
  go_wp2_with fail
  refine (add_f c51.num c43.num (tP.below hB)).mono ?_; rintro e_ w22 ⟨v60, rfl, hn, hb⟩
  have c60 := hn.fp
  replace hB := hB.trans (hb.mono hB.size)
  replace hk2 := hk2.keep hb
  replace hk3 := hk3.keep hb
  replace hk4 := hk4.keep hb
  replace c17 := c17.below hb
  replace c22 := c22.below hb
  replace c23 := c23.below hb
  replace c28 := c28.below hb
  replace c33 := c33.below hb
  replace c34 := c34.below hb
  replace c39 := c39.below hb
  replace c40 := c40.below hb
  replace c41 := c41.below hb
  replace c42 := c42.below hb
  replace c43 := c43.below hb
  replace c50 := c50.below hb
  replace c51 := c51.below hb
  replace c54 := c54.below hb
  replace c57 := c57.below hb
  clear hb hn
  go_wp2_with fail
  refine (add_f c34.num c23.num (tP.below hB)).mono ?_; rintro e_ w23 ⟨v63, rfl, hn, hb⟩
  have c63 := hn.fp
  replace hB := hB.trans (hb.mono hB.size)
  replace hk2 := hk2.keep hb
  replace hk3 := hk3.keep hb
  replace hk4 := hk4.keep hb
  replace c17 := c17.below hb
  replace c22 := c22.below hb
  replace c23 := c23.below hb
  replace c28 := c28.below hb
  replace c33 := c33.below hb
  replace c34 := c34.below hb
  replace c39 := c39.below hb
  replace c40 := c40.below hb
  replace c41 := c41.below hb
  replace c42 := c42.below hb
  replace c43 := c43.below hb
  replace c50 := c50.below hb
  replace c51 := c51.below hb
  replace c54 := c54.below hb
  replace c57 := c57.below hb
  replace c60 := c60.below hb
  clear hb hn
  go_wp2_with fail
  refine (mul_f c54.num c57.num (tP.below hB)).mono ?_; rintro e_ w24 ⟨v66, rfl, hn, hb⟩
  have c66 := hn.fp
  have r66 := hn.mono (Nat.succ_le_of_lt hk4.lt)
  replace hB := hB.trans (hb.mono hB.size)
  replace hk2 := hk2.keep hb
  replace hk3 := hk3.keep hb
  replace hk4 := hk4.keep hb
  replace c17 := c17.below hb
  replace c22 := c22.below hb
  replace c23 := c23.below hb
  replace c28 := c28.below hb
  replace c33 := c33.below hb
  replace c34 := c34.below hb
  replace c39 := c39.below hb
  replace c40 := c40.below hb
  replace c41 := c41.below hb
  replace c42 := c42.below hb
  replace c43 := c43.below hb
  replace c50 := c50.below hb
  replace c51 := c51.below hb
  replace c54 := c54.below hb
  replace c57 := c57.below hb
  replace c60 := c60.below hb
  replace c63 := c63.below hb
  clear hb hn
  go_wp2_with fail
  refine (mul_f c60.num c63.num (tP.below hB)).mono ?_; rintro e_ w25 ⟨v69, rfl, hn, hb⟩
  have c69 := hn.fp
  have r69 := hn.mono (Nat.succ_le_of_lt hk4.lt)
  replace hB := hB.trans (hb.mono hB.size)
  replace hk2 := hk2.keep hb
  replace hk3 := hk3.keep hb
  replace hk4 := hk4.keep hb
  replace c17 := c17.below hb
  replace c22 := c22.below hb
  replace c23 := c23.below hb
  replace c28 := c28.below hb
  replace c33 := c33.below hb
  replace c34 := c34.below hb
  replace c39 := c39.below hb
  replace c40 := c40.below hb
  replace c41 := c41.below hb
  replace c42 := c42.below hb
  replace c43 := c43.below hb
  replace c50 := c50.below hb
  replace c51 := c51.below hb
  replace c54 := c54.below hb
  replace c57 := c57.below hb
  replace c60 := c60.below hb
  replace c63 := c63.below hb
  replace c66 := c66.below hb
  replace r66 := r66.below hb
  clear hb hn
  go_wp2_with fail
  refine (mul_f c57.num c60.num (tP.below hB)).mono ?_; rintro e_ w26 ⟨v72, rfl, hn, hb⟩
  have c72 := hn.fp
  have r72 := hn.mono (Nat.succ_le_of_lt hk4.lt)
  replace hB := hB.trans (hb.mono hB.size)
  replace hk2 := hk2.keep hb
  replace hk3 := hk3.keep hb
  replace hk4 := hk4.keep hb
  replace c17 := c17.below hb
  replace c22 := c22.below hb
  replace c23 := c23.below hb
  replace c28 := c28.below hb
  replace c33 := c33.below hb
  replace c34 := c34.below hb
  replace c39 := c39.below hb
  replace c40 := c40.below hb
  replace c41 := c41.below hb
  replace c42 := c42.below hb
  replace c43 := c43.below hb
  replace c50 := c50.below hb
  replace c51 := c51.below hb
  replace c54 := c54.below hb
  replace c57 := c57.below hb
  replace c60 := c60.below hb
  replace c63 := c63.below hb
  replace c66 := c66.below hb
  replace r66 := r66.below hb
  replace c69 := c69.below hb
  replace r69 := r69.below hb
  clear hb hn
  go_wp2_with fail
  refine (mul_f c54.num c63.num (tP.below hB)).mono ?_; rintro e_ w27 ⟨v75, rfl, hn, hb⟩
  have c75 := hn.fp
  have r75 := hn.mono (Nat.succ_le_of_lt hk4.lt)
  replace hB := hB.trans (hb.mono hB.size)
  replace hk2 := hk2.keep hb
  replace hk3 := hk3.keep hb
  replace hk4 := hk4.keep hb
  replace c17 := c17.below hb
  replace c22 := c22.below hb
  replace c23 := c23.below hb
  replace c28 := c28.below hb
  replace c33 := c33.below hb
  replace c34 := c34.below hb
  replace c39 := c39.below hb
  replace c40 := c40.below hb
  replace c41 := c41.below hb
  replace c42 := c42.below hb
  replace c43 := c43.below hb
  replace c50 := c50.below hb
  replace c51 := c51.below hb
  replace c54 := c54.below hb
  replace c57 := c57.below hb
  replace c60 := c60.below hb
  replace c63 := c63.below hb
  replace c66 := c66.below hb
  replace r66 := r66.below hb
  replace c69 := c69.below hb
  replace r69 := r69.below hb
  replace c72 := c72.below hb
  replace r72 := r72.below hb
  clear hb hn
  obtain ⟨a66_, n66_, p66_, rfl⟩ := c66.sliced
  obtain ⟨a69_, n69_, p69_, rfl⟩ := c69.sliced
  obtain ⟨a72_, n72_, p72_, rfl⟩ := c72.sliced
  obtain ⟨a75_, n75_, p75_, rfl⟩ := c75.sliced
  go_wp2_with (refine wpList_store_agg rfl 67 _ _ rfl g4 67 [(.slice none 0 0), (.slice none 0 0), (.slice none 0 0), (.slice none 0 0)] [(.slice a66_ n66_ p66_), (.slice a69_ n69_ p69_), (.slice a72_ n72_ p72_), (.slice a75_ n75_ p75_)] rfl rfl hk4 size_spot (by intro v_ hv_; simp only [List.mem_cons, List.not_mem_nil, or_false] at hv_; rcases hv_ with rfl | rfl | rfl | rfl <;> first | rfl | exact c66.one_cell | exact c69.one_cell | exact c72.one_cell | exact c75.one_cell) rfl ?_)
  intro w28 hn hg
  replace hB := hB.grown hg hB.size (by intro k_ hk_; cases hk_; exact HG4.out)
  replace hk2 := hk2.grown hg (fun e_ => NE2_4.out (Option.some.inj e_))
  replace hk3 := hk3.grown hg (fun e_ => NE3_4.out (Option.some.inj e_))
  replace hk4 := hn
  clear c17
  clear c22
  clear c23
  clear c28
  clear c33
  clear c34
  clear c39
  clear c40
  clear c41
  clear c42
  clear c43
  clear c50
  clear c51
  clear c54
  clear c57
  clear c60
  clear c63
  clear c66
  replace r66 := r66.past hg
  clear c69
  replace r69 := r69.past hg
  clear c72
  replace r72 := r72.past hg
  clear c75
  replace r75 := r75.past hg
  clear hn hg
  go_wp2_with fail
  refine bodyPost_ret (results_agg rfl rfl hk4 Tryd.underlying67 rfl size_spot) rfl ?_
  exact ⟨_, rfl, ⟨_, _, _, _, rfl, r66.mono (Nat.le_succ_of_le HG4.out), r69.mono (Nat.le_succ_of_le HG4.out), r72.mono (Nat.le_succ_of_le HG4.out), r75.mono (Nat.le_succ_of_le HG4.out)⟩, hB⟩
set_option maxHeartbeats 4000000 in
set_option maxRecDepth 20000 in
theorem twice_c {va : Value} {a : Sp} {w : World} (ha : SpAt w va a) (tP : TabAt w 0 limbP) :
    Calls Tryd.prog 106 #[va] w (SpPost a.twice w) := by
  obtain ⟨vax, vay, vaz, vat, rfl, cax, cay, caz, cat⟩ := ha
  go_enter Tryd.func106, Tryd.ntmps106
  have hB := Below.refl w.heap.size w
  go_wp2_with (refine wpList_box_agg rfl 67 _ rfl [vax, vay, vaz, vat] rfl ?_)
  intro w1 hk1 hb
  have hz_ := hB.size
  replace hB := hB.trans (hb.mono hB.size)
  clear hb
  obtain ⟨g1, hg_⟩ : ∃ g, g = w.heap.size := ⟨_, rfl⟩
  rw [← hg_] at hk1 ⊢
  have HG1 : Hid (w.heap.size ≤ g1) := Lib.hid (by rw [hg_]; exact hz_)
  clear hg_ hz_
  go_wp2_with (refine wpList_alloc_agg rfl 67 rfl [(.slice none 0 0), (.slice none 0 0), (.slice none 0 0), (.slice none 0 0)] 4 (by kernel_rfl) ?_)
  intro w2 hk2 hb
  have hz_ := hB.size
  have lt1_ := hk1.lt
  replace hB := hB.trans (hb.mono hB.size)
  replace hk1 := hk1.keep hb
  clear hb
  obtain ⟨g2, hg_⟩ : ∃ g, g = w1.heap.size := ⟨_, rfl⟩
  rw [← hg_] at hk2 ⊢
  have HG2 : Hid (w.heap.size ≤ g2) := Lib.hid (by rw [hg_]; exact hz_)
  have NE1_2 : Hid (g1 ≠ g2) := Lib.hid (by rw [hg_]; exact Nat.ne_of_lt lt1_)
  clear hg_ hz_ lt1_
  go_wp2_with fail
  refine wp_region_held_drew (S := fun W_ => Rw W_ g1 67 [vax, vay, vaz, vat]) (by kernel_rfl) (hk1) (fun hS => ?_)
  have hb := below_drewN (Below.refl w2.heap.size w2) 1
  obtain ⟨w3, hw_⟩ : ∃ x, x = World.drew w2 := ⟨_, rfl⟩
  rw [show World.drewN w2 1 = w3 from hw_.symm] at hb
  rw [← hw_] at hS ⊢
  clear hw_
  replace hB := hB.trans (hb.mono hB.size)
  replace hk1 := hk1.keep hb
  replace hk2 := hk2.keep hb
  clear hb
  refine wpAnyH_take (i := 0) (v := ?_) rfl (by kernel_rfl) (by kernel_rfl) (by kernel_rfl) (fun _ _ _ h => h) (Or.inl ⟨by rfl, ?_⟩) hS ?_
  rotate_left
  · intro w _; go_simp; try with_reducible rfl
  simp only [List.getElem_toArray, List.getElem_cons_zero, List.getElem_cons_succ, Act.put, List.setIfInBounds_toArray, List.set_cons_zero, List.set_cons_succ]
  refine wpAnyH_take (i := 1) (v := ?_) rfl (by kernel_rfl) (by kernel_rfl) (by kernel_rfl) (fun _ _ _ h => h) (Or.inl ⟨by rfl, ?_⟩) hS ?_
  rotate_left
  · intro W_ hW_; have c_ := Rw.cell hW_ 0 rfl; go_simp; try with_reducible rfl
  simp only [List.getElem_toArray, List.getElem_cons_zero, List.getElem_cons_succ, Act.put, List.setIfInBounds_toArray, List.set_cons_zero, List.set_cons_succ]
  refine wpAnyH_take (i := 2) (v := ?_) rfl (by kernel_rfl) (by kernel_rfl) (by kernel_rfl) (fun _ _ _ h => h) (Or.inl ⟨by rfl, ?_⟩) hS ?_
  rotate_left
  · intro w _; go_simp; try with_reducible rfl
  simp only [List.getElem_toArray, List.getElem_cons_zero, List.getElem_cons_succ, Act.put, List.setIfInBounds_toArray, List.set_cons_zero, List.set_cons_succ]
  refine wpAnyH_take (i := 3) (v := ?_) rfl (by kernel_rfl) (by kernel_rfl) (by kernel_rfl) (fun _ _ _ h => h) (Or.inl ⟨by rfl, ?_⟩) hS ?_
  rotate_left
  · intro W_ hW_; have c_ := Rw.cell hW_ 0 rfl; go_simp; try with_reducible rfl
  simp only [List.getElem_toArray, List.getElem_cons_zero, List.getElem_cons_succ, Act.put, List.setIfInBounds_toArray, List.set_cons_zero, List.set_cons_succ]
  refine wpAnyH_take (i := 5) (v := ?_) rfl (by kernel_rfl) (by kernel_rfl) (by kernel_rfl) (fun _ _ _ h => h) (Or.inl ⟨by rfl, ?_⟩) hS ?_
  rotate_left
  · intro w _; go_simp; try with_reducible rfl
  simp only [List.getElem_toArray, List.getElem_cons_zero, List.getElem_cons_succ, Act.put, List.setIfInBounds_toArray, List.set_cons_zero, List.set_cons_succ]
  refine wpAnyH_take (i := 6) (v := ?_) rfl (by kernel_rfl) (by kernel_rfl) (by kernel_rfl) (fun _ _ _ h => h) (Or.inl ⟨by rfl, ?_⟩) hS ?_
  rotate_left
  · intro W_ hW_; have c_ := Rw.cell hW_ 1 rfl; go_simp; try with_reducible rfl
  simp only [List.getElem_toArray, List.getElem_cons_zero, List.getElem_cons_succ, Act.put, List.setIfInBounds_toArray, List.set_cons_zero, List.set_cons_succ]
  refine wpAnyH_take (i := 7) (v := ?_) rfl (by kernel_rfl) (by kernel_rfl) (by kernel_rfl) (fun _ _ _ h => h) (Or.inl ⟨by rfl, ?_⟩) hS ?_
  rotate_left
  · intro w _; go_simp; try with_reducible rfl
  simp only [List.getElem_toArray, List.getElem_cons_zero, List.getElem_cons_succ, Act.put, List.setIfInBounds_toArray, List.set_cons_zero, List.set_cons_succ]
  refine wpAnyH_take (i := 8) (v := ?_) rfl (by kernel_rfl) (by kernel_rfl) (by kernel_rfl) (fun _ _ _ h => h) (Or.inl ⟨by rfl, ?_⟩) hS ?_
  rotate_left
  · intro W_ hW_; have c_ := Rw.cell hW_ 1 rfl; go_simp; try with_reducible rfl
  simp only [List.getElem_toArray, List.getElem_cons_zero, List.getElem_cons_succ, Act.put, List.setIfInBounds_toArray, List.set_cons_zero, List.set_cons_succ]
  refine wpAnyH_ready (rs := [4]) (by kernel_rfl) (by simp) ?_
  refine AllReadyH.cons rfl (fun K hK => ?_) AllReadyH.nil
  rw [if_pos (by rfl)]
  simp only [List.getElem_toArray, List.getElem_cons_zero, List.getElem_cons_succ]
  go_simp
  refine (mul_f (cax.below hB).num (cax.below hB).num (tP.below hB)).mono ?_; rintro e_ w4 ⟨v15, rfl, hn, hb⟩
  dsimp only
  have c15 := hn.fp
  replace hB := hB.trans (hb.mono hB.size)
  replace hk1 := hk1.keep hb
  replace hk2 := hk2.keep hb
  clear hb hn
  refine hK.out _ _ hk1 (fun hS => ?_)
  refine wpAnyH_ready (rs := [9]) (by kernel_rfl) (by simp) ?_
  refine AllReadyH.cons rfl (fun K hK => ?_) AllReadyH.nil
  rw [if_pos (by rfl)]
  simp only [List.getElem_toArray, List.getElem_cons_zero, List.getElem_cons_succ]
  go_simp
  refine (mul_f (cay.below hB).num (cay.below hB).num (tP.below hB)).mono ?_; rintro e_ w5 ⟨v20, rfl, hn, hb⟩
  dsimp only
  have c20 := hn.fp
  replace hB := hB.trans (hb.mono hB.size)
  replace hk1 := hk1.keep hb
  replace hk2 := hk2.keep hb
  replace c15 := c15.below hb
  clear hb hn
  refine hK.out _ _ hk1 (fun hS => ?_)
  refine wpAnyH_ready (rs := [10]) (by kernel_rfl) (by simp) ?_
  refine AllReadyH.cons rfl (fun K hK => ?_) AllReadyH.nil
  rw [if_pos (by rfl)]
  simp only [List.getElem_toArray, List.getElem_cons_zero, List.getElem_cons_succ]
  go_simp
  refine hK.out _ _ hS (fun hS => ?_)
  refine wpAnyH_ready (rs := [11]) (by kernel_rfl) (by simp) ?_
  refine AllReadyH.cons rfl (fun K hK => ?_) AllReadyH.nil
  rw [if_pos (by rfl)]
  simp only [List.getElem_toArray, List.getElem_cons_zero, List.getElem_cons_succ]
  go_simp
  refine hK.out _ _ hS (fun hS => ?_)
  refine wpAnyH_done (by kernel_rfl) ?_ _
  clear hS
  go_wp2_with fail
  refine wp_region_held_drew (S := fun W_ => Rw W_ g1 67 [vax, vay, vaz, vat]) (by kernel_rfl) (hk1) (fun hS => ?_)
  have hb := below_drewN (Below.refl w5.heap.size w5) 1
  obtain ⟨w6, hw_⟩ : ∃ x, x = World.drew w5 := ⟨_, rfl⟩
  rw [show World.drewN w5 1 = w6 from hw_.symm] at hb
  rw [← hw_] at hS ⊢
  clear hw_
  replace hB := hB.trans (hb.mono hB.size)
  replace hk1 := hk1.keep hb
  replace hk2 := hk2.keep hb
  replace c15 := c15.below hb
  replace c20 := c20.below hb
  clear hb
  refine wpAnyH_take (i := 0) (v := ?_) rfl (by kernel_rfl) (by kernel_rfl) (by kernel_rfl) (fun _ _ _ h => h) (Or.inl ⟨by rfl, ?_⟩) hS ?_
  rotate_left
  · intro w _; go_simp; try with_reducible rfl
  simp only [List.getElem_toArray, List.getElem_cons_zero, List.getElem_cons_succ, Act.put, List.setIfInBounds_toArray, List.set_cons_zero, List.set_cons_succ]
  refine wpAnyH_take (i := 1) (v := ?_) rfl (by kernel_rfl) (by kernel_rfl) (by kernel_rfl) (fun _ _ _ h => h) (Or.inl ⟨by rfl, ?_⟩) hS ?_
  rotate_left
  · intro W_ hW_; have c_ := Rw.cell hW_ 2 rfl; go_simp; try with_reducible rfl
  simp only [List.getElem_toArray, List.getElem_cons_zero, List.getElem_cons_succ, Act.put, List.setIfInBounds_toArray, List.set_cons_zero, List.set_cons_succ]
  refine wpAnyH_take (i := 2) (v := ?_) rfl (by kernel_rfl) (by kernel_rfl) (by kernel_rfl) (fun _ _ _ h => h) (Or.inl ⟨by rfl, ?_⟩) hS ?_
  rotate_left
  · intro w _; go_simp; try with_reducible rfl
  simp only [List.getElem_toArray, List.getElem_cons_zero, List.getElem_cons_succ, Act.put, List.setIfInBounds_toArray, List.set_cons_zero, List.set_cons_succ]
  refine wpAnyH_take (i := 3) (v := ?_) rfl (by kernel_rfl) (by kernel_rfl) (by kernel_rfl) (fun _ _ _ h => h) (Or.inl ⟨by rfl, ?_⟩) hS ?_
  rotate_left
  · intro W_ hW_; have c_ := Rw.cell hW_ 2 rfl; go_simp; try with_reducible rfl
  simp only [List.getElem_toArray, List.getElem_cons_zero, List.getElem_cons_succ, Act.put, List.setIfInBounds_toArray, List.set_cons_zero, List.set_cons_succ]
  refine wpAnyH_take (i := 4) (v := ?_) rfl (by kernel_rfl) (by kernel_rfl) (by kernel_rfl) (fun _ _ _ h => h) (Or.inl ⟨by rfl, ?_⟩) hS ?_
  rotate_left
  · intro w _; go_simp; try with_reducible rfl
  simp only [List.getElem_toArray, List.getElem_cons_zero, List.getElem_cons_succ, Act.put, List.setIfInBounds_toArray, List.set_cons_zero, List.set_cons_succ]
  refine wpAnyH_take (i := 5) (v := ?_) rfl (by kernel_rfl) (by kernel_rfl) (by kernel_rfl) (fun _ _ _ h => h) (Or.inl ⟨by rfl, ?_⟩) hS ?_
  rotate_left
  · intro W_ hW_; have c_ := Rw.cell hW_ 2 rfl; go_simp; try with_reducible rfl
  simp only [List.getElem_toArray, List.getElem_cons_zero, List.getElem_cons_succ, Act.put, List.setIfInBounds_toArray, List.set_cons_zero, List.set_cons_succ]
  refine wpAnyH_ready (rs := [6]) (by kernel_rfl) (by simp) ?_
  refine AllReadyH.cons rfl (fun K hK => ?_) AllReadyH.nil
  rw [if_pos (by rfl)]
  simp only [List.getElem_toArray, List.getElem_cons_zero, List.getElem_cons_succ]
  go_simp
  refine (add_f (caz.below hB).num (caz.below hB).num (tP.below hB)).mono ?_; rintro e_ w7 ⟨v27, rfl, hn, hb⟩
  dsimp only
  have c27 := hn.fp
  replace hB := hB.trans (hb.mono hB.size)
  replace hk1 := hk1.keep hb
  replace hk2 := hk2.keep hb
  replace c15 := c15.below hb
  replace c20 := c20.below hb
  clear hb hn
  refine hK.out _ _ hk1 (fun hS => ?_)
  refine wpAnyH_ready (rs := [7]) (by kernel_rfl) (by simp) ?_
  refine AllReadyH.cons rfl (fun K hK => ?_) AllReadyH.nil
  rw [if_pos (by rfl)]
  simp only [List.getElem_toArray, List.getElem_cons_zero, List.getElem_cons_succ]
  go_simp
  refine (mul_f (caz.below hB).num c27.num (tP.below hB)).mono ?_; rintro e_ w8 ⟨v28, rfl, hn, hb⟩
  dsimp only
  have c28 := hn.fp
  replace hB := hB.trans (hb.mono hB.size)
  replace hk1 := hk1.keep hb
  replace hk2 := hk2.keep hb
  replace c15 := c15.below hb
  replace c20 := c20.below hb
  replace c27 := c27.below hb
  clear hb hn
  refine hK.out _ _ hk1 (fun hS => ?_)
  refine wpAnyH_ready (rs := [8]) (by kernel_rfl) (by simp) ?_
  refine AllReadyH.cons rfl (fun K hK => ?_) AllReadyH.nil
  rw [if_pos (by rfl)]
  simp only [List.getElem_toArray, List.getElem_cons_zero, List.getElem_cons_succ]
  go_simp
  refine hK.out _ _ hS (fun hS => ?_)
  refine wpAnyH_done (by kernel_rfl) ?_ _
  clear hS
  go_wp2_with fail
  refine (add_f c15.num c20.num (tP.below hB)).mono ?_; rintro e_ w9 ⟨v31, rfl, hn, hb⟩
  have c31 := hn.fp
  replace hB := hB.trans (hb.mono hB.size)
  replace hk1 := hk1.keep hb
  replace hk2 := hk2.keep hb
  replace c15 := c15.below hb
  replace c20 := c20.below hb
  replace c27 := c27.below hb
  replace c28 := c28.below hb
  clear hb hn
  have q0_ := hk1.cell 0 rfl
  have q1_ := hk1.cell 1 rfl
  go_wp2_with fail
  refine (add_f (cax.below hB).num (cay.below hB).num (tP.below hB)).mono ?_; rintro e_ w10 ⟨v36, rfl, hn, hb⟩
  clear q0_ q1_
  have c36 := hn.fp
  replace hB := hB.trans (hb.mono hB.size)
  replace hk1 := hk1.keep hb
  replace hk2 := hk2.keep hb
  replace c15 := c15.below hb
  replace c20 := c20.below hb
  replace c27 := c27.below hb
  replace c28 := c28.below hb
  replace c31 := c31.below hb
  clear hb hn
  go_wp2_with fail
  refine (mul_f c36.num c36.num (tP.below hB)).mono ?_; rintro e_ w11 ⟨v40, rfl, hn, hb⟩
  have c40 := hn.fp
  replace hB := hB.trans (hb.mono hB.size)
  replace hk1 := hk1.keep hb
  replace hk2 := hk2.keep hb
  replace c15 := c15.below hb
  replace c20 := c20.below hb
  replace c27 := c27.below hb
  replace c28 := c28.below hb
  replace c31 := c31.below hb
  replace c36 := c36.below hb
  clear hb hn
  go_wp2_with fail
  refine (sub_f c31.num c40.num (tP.below hB)).mono ?_; rintro e_ w12 ⟨v41, rfl, hn, hb⟩
  have c41 := hn.fp
  replace hB := hB.trans (hb.mono hB.size)
  replace hk1 := hk1.keep hb
  replace hk2 := hk2.keep hb
  replace c15 := c15.below hb
  replace c20 := c20.below hb
  replace c27 := c27.below hb
  replace c28 := c28.below hb
  replace c31 := c31.below hb
  replace c36 := c36.below hb
  replace c40 := c40.below hb
  clear hb hn
  go_wp2_with fail
  refine (sub_f c15.num c20.num (tP.below hB)).mono ?_; rintro e_ w13 ⟨v44, rfl, hn, hb⟩
  have c44 := hn.fp
  replace hB := hB.trans (hb.mono hB.size)
  replace hk1 := hk1.keep hb
  replace hk2 := hk2.keep hb
  replace c15 := c15.below hb
  replace c20 := c20.below hb
  replace c27 := c27.below hb
  replace c28 := c28.below hb
  replace c31 := c31.below hb
  replace c36 := c36.below hb
  replace c40 := c40.below hb
  replace c41 := c41.below hb
  clear hb hn
  go_wp2_with fail
  refine (add_f c28.num c44.num (tP.below hB)).mono ?_; rintro e_ w14 ⟨v47, rfl, hn, hb⟩
  have c47 := hn.fp
  replace hB := hB.trans (hb.mono hB.size)
  replace hk1 := hk1.keep hb
  replace hk2 := hk2.keep hb
  replace c15 := c15.below hb
  replace c20 := c20.below hb
  replace c27 := c27.below hb
  replace c28 := c28.below hb
  replace c31 := c31.below hb
  replace c36 := c36.below hb
  replace c40 := c40.below hb
  replace c41 := c41.below hb
  replace c44 := c44.below hb
  clear hb hn
  go_wp2_with fail
  refine (mul_f c41.num c47.num (tP.below hB)).mono ?_; rintro e_ w15 ⟨v50, rfl, hn, hb⟩
  have c50 := hn.fp
  have r50 := hn.mono (Nat.succ_le_of_lt hk2.lt)
  replace hB := hB.trans (hb.mono hB.size)
  replace hk1 := hk1.keep hb
  replace hk2 := hk2.keep hb
  replace c15 := c15.below hb
  replace c20 := c20.below hb
  replace c27 := c27.below hb
  replace c28 := c28.below hb
  replace c31 := c31.below hb
  replace c36 := c36.below hb
  replace c40 := c40.below hb
  replace c41 := c41.below hb
  replace c44 := c44.below hb
  replace c47 := c47.below hb
  clear hb hn
  go_wp2_with fail
  refine (mul_f c44.num c31.num (tP.below hB)).mono ?_; rintro e_ w16 ⟨v53, rfl, hn, hb⟩
  have c53 := hn.fp
  have r53 := hn.mono (Nat.succ_le_of_lt hk2.lt)
  replace hB := hB.trans (hb.mono hB.size)
  replace hk1 := hk1.keep hb
  replace hk2 := hk2.keep hb
  replace c15 := c15.below hb
  replace c20 := c20.below hb
  replace c27 := c27.below hb
  replace c28 := c28.below hb
  replace c31 := c31.below hb
  replace c36 := c36.below hb
  replace c40 := c40.below hb
  replace c41 := c41.below hb
  replace c44 := c44.below hb
  replace c47 := c47.below hb
  replace c50 := c50.below hb
  replace r50 := r50.below hb
  clear hb hn
  go_wp2_with fail
  refine (mul_f c47.num c44.num (tP.below hB)).mono ?_; rintro e_ w17 ⟨v56, rfl, hn, hb⟩
  have c56 := hn.fp
  have r56 := hn.mono (Nat.succ_le_of_lt hk2.lt)
  replace hB := hB.trans (hb.mono hB.size)
  replace hk1 := hk1.keep hb
  replace hk2 := hk2.keep hb
  replace c15 := c15.below hb
  replace c20 := c20.below hb
  replace c27 := c27.below hb
  replace c28 := c28.below hb
  replace c31 := c31.below hb
  replace c36 := c36.below hb
  replace c40 := c40.below hb
  replace c41 := c41.below hb
  replace c44 := c44.below hb
  replace c47 := c47.below hb
  replace c50 := c50.below hb
  replace r50 := r50.below hb
  replace c53 := c53.below hb
  replace r53 := r53.below hb
  clear hb hn
  go_wp2_with fail
  refine (mul_f c41.num c31.num (tP.below hB)).mono ?_; rintro e_ w18 ⟨v59, rfl, hn, hb⟩
  have c59 := hn.fp
  have r59 := hn.mono (Nat.succ_le_of_lt hk2.lt)
  replace hB := hB.trans (hb.mono hB.size)
  replace hk1 := hk1.keep hb
  replace hk2 := hk2.keep hb
  replace c15 := c15.below hb
  replace c20 := c20.below hb
  replace c27 := c27.below hb
  replace c28 := c28.below hb
  replace c31 := c31.below hb
  replace c36 := c36.below hb
  replace c40 := c40.below hb
  replace c41 := c41.below hb
  replace c44 := c44.below hb
  replace c47 := c47.below hb
  replace c50 := c50.below hb
  replace r50 := r50.below hb
  replace c53 := c53.below hb
  replace r53 := r53.below hb
  replace c56 := c56.below hb
  replace r56 := r56.below hb
  clear hb hn
  obtain ⟨a50_, n50_, p50_, rfl⟩ := c50.sliced
  obtain ⟨a53_, n53_, p53_, rfl⟩ := c53.sliced
  obtain ⟨a56_, n56_, p56_, rfl⟩ := c56.sliced
  obtain ⟨a59_, n59_, p59_, rfl⟩ := c59.sliced
  go_wp2_with (refine wpList_store_agg rfl 67 _ _ rfl g2 67 [(.slice none 0 0), (.slice none 0 0), (.slice none 0 0), (.slice none 0 0)] [(.slice a50_ n50_ p50_), (.slice a53_ n53_ p53_), (.slice a56_ n56_ p56_), (.slice a59_ n59_ p59_)] rfl rfl hk2 size_spot (by intro v_ hv_; simp only [List.mem_cons, List.not_mem_nil, or_false] at hv_; rcases hv_ with rfl | rfl | rfl | rfl <;> first | rfl | exact c50.one_cell | exact c53.one_cell | exact c56.one_cell | exact c59.one_cell) rfl ?_)
  intro w19 hn hg
  replace hB := hB.grown hg hB.size (by intro k_ hk_; cases hk_; exact HG2.out)
  replace hk1 := hk1.grown hg (fun e_ => NE1_2.out (Option.some.inj e_))
  replace hk2 := hn
  clear c15
  clear c20
  clear c27
  clear c28
  clear c31
  clear c36
  clear c40
  clear c41
  clear c44
  clear c47
  clear c50
  replace r50 := r50.past hg
  clear c53
  replace r53 := r53.past hg
  clear c56
  replace r56 := r56.past hg
  clear c59
  replace r59 := r59.past hg
  clear hn hg
  go_wp2_with fail
  refine bodyPost_ret (results_agg rfl rfl hk2 Tryd.underlying67 rfl size_spot) rfl ?_
  exact ⟨_, rfl, ⟨_, _, _, _, rfl, r50.mono (Nat.le_succ_of_le HG2.out), r53.mono (Nat.le_succ_of_le HG2.out), r56.mono (Nat.le_succ_of_le HG2.out), r59.mono (Nat.le_succ_of_le HG2.out)⟩, hB⟩
set_option maxHeartbeats 4000000 in
set_option maxRecDepth 20000 in
theorem point_c {va : Value} {a : Sp} {w : World} (ha : SpAt w va a) (hz : a.z ≠ 0) (tP : TabAt w 0 limbP) :
    Calls Tryd.prog 57 #[va] w (PtPost a.pt w) := by
  obtain ⟨vax, vay, vaz, vat, rfl, cax, cay, caz, cat⟩ := ha
  go_enter Tryd.func57, Tryd.ntmps57
  have hB := Below.refl w.heap.size w
  go_wp2_with (refine wpList_box_agg rfl 67 _ rfl [vax, vay, vaz, vat] rfl ?_)
  intro w1 hk1 hb
  have hz_ := hB.size
  replace hB := hB.trans (hb.mono hB.size)
  clear hb
  obtain ⟨g1, hg_⟩ : ∃ g, g = w.heap.size := ⟨_, rfl⟩
  rw [← hg_] at hk1 ⊢
  have HG1 : Hid (w.heap.size ≤ g1) := Lib.hid (by rw [hg_]; exact hz_)
  clear hg_ hz_
  go_wp2_with (refine wpList_alloc_agg rfl 29 rfl [(.slice none 0 0), (.slice none 0 0), (.bool false)] 3 (by kernel_rfl) ?_)
  intro w2 hk2 hb
  have hz_ := hB.size
  have lt1_ := hk1.lt
  replace hB := hB.trans (hb.mono hB.size)
  replace hk1 := hk1.keep hb
  clear hb
  obtain ⟨g2, hg_⟩ : ∃ g, g = w1.heap.size := ⟨_, rfl⟩
  rw [← hg_] at hk2 ⊢
  have HG2 : Hid (w.heap.size ≤ g2) := Lib.hid (by rw [hg_]; exact hz_)
  have NE1_2 : Hid (g1 ≠ g2) := Lib.hid (by rw [hg_]; exact Nat.ne_of_lt lt1_)
  clear hg_ hz_ lt1_
  have q0_ := hk1.cell 2 rfl
  go_wp2_with fail
  refine (inv_f (caz.below hB).num hz (tP.below hB)).mono ?_; rintro e_ w3 ⟨v6, rfl, hn, hb⟩
  clear q0_
  have c6 := hn.fp
  replace hB := hB.trans (hb.mono hB.size)
  replace hk1 := hk1.keep hb
  replace hk2 := hk2.keep hb
  clear hb hn
  go_wp2_with fail
  refine wp_region_held_drew (S := fun W_ => Rw W_ g1 67 [vax, vay, vaz, vat]) (by kernel_rfl) (hk1) (fun hS => ?_)
  have hb := below_drewN (Below.refl w3.heap.size w3) 1
  obtain ⟨w4, hw_⟩ : ∃ x, x = World.drew w3 := ⟨_, rfl⟩
  rw [show World.drewN w3 1 = w4 from hw_.symm] at hb
  rw [← hw_] at hS ⊢
  clear hw_
  replace hB := hB.trans (hb.mono hB.size)
  replace hk1 := hk1.keep hb
  replace hk2 := hk2.keep hb
  replace c6 := c6.below hb
  clear hb
  refine wpAnyH_take (i := 0) (v := ?_) rfl (by kernel_rfl) (by kernel_rfl) (by kernel_rfl) (fun _ _ _ h => h) (Or.inl ⟨by rfl, ?_⟩) hS ?_
  rotate_left
  · intro w _; go_simp; try with_reducible rfl
  simp only [List.getElem_toArray, List.getElem_cons_zero, List.getElem_cons_succ, Act.put, List.setIfInBounds_toArray, List.set_cons_zero, List.set_cons_succ]
  refine wpAnyH_take (i := 1) (v := ?_) rfl (by kernel_rfl) (by kernel_rfl) (by kernel_rfl) (fun _ _ _ h => h) (Or.inl ⟨by rfl, ?_⟩) hS ?_
  rotate_left
  · intro W_ hW_; have c_ := Rw.cell hW_ 0 rfl; go_simp; try with_reducible rfl
  simp only [List.getElem_toArray, List.getElem_cons_zero, List.getElem_cons_succ, Act.put, List.setIfInBounds_toArray, List.set_cons_zero, List.set_cons_succ]
  refine wpAnyH_take (i := 2) (v := ?_) rfl (by kernel_rfl) (by kernel_rfl) (by kernel_rfl) (fun _ _ _ h => h) (Or.inl ⟨by rfl, ?_⟩) hS ?_
  rotate_left
  · intro w _; go_simp; try with_reducible rfl
  simp only [List.getElem_toArray, List.getElem_cons_zero, List.getElem_cons_succ, Act.put, List.setIfInBounds_toArray, List.set_cons_zero, List.set_cons_succ]
  refine wpAnyH_take (i := 4) (v := ?_) rfl (by kernel_rfl) (by kernel_rfl) (by kernel_rfl) (fun _ _ _ h => h) (Or.inl ⟨by rfl, ?_⟩) hS ?_
  rotate_left
  · intro w _; go_simp; try with_reducible rfl
  simp only [List.getElem_toArray, List.getElem_cons_zero, List.getElem_cons_succ, Act.put, List.setIfInBounds_toArray, List.set_cons_zero, List.set_cons_succ]
  refine wpAnyH_take (i := 5) (v := ?_) rfl (by kernel_rfl) (by kernel_rfl) (by kernel_rfl) (fun _ _ _ h => h) (Or.inl ⟨by rfl, ?_⟩) hS ?_
  rotate_left
  · intro W_ hW_; have c_ := Rw.cell hW_ 1 rfl; go_simp; try with_reducible rfl
  simp only [List.getElem_toArray, List.getElem_cons_zero, List.getElem_cons_succ, Act.put, List.setIfInBounds_toArray, List.set_cons_zero, List.set_cons_succ]
  refine wpAnyH_take (i := 6) (v := ?_) rfl (by kernel_rfl) (by kernel_rfl) (by kernel_rfl) (fun _ _ _ h => h) (Or.inl ⟨by rfl, ?_⟩) hS ?_
  rotate_left
  · intro w _; go_simp; try with_reducible rfl
  simp only [List.getElem_toArray, List.getElem_cons_zero, List.getElem_cons_succ, Act.put, List.setIfInBounds_toArray, List.set_cons_zero, List.set_cons_succ]
  refine wpAnyH_ready (rs := [3]) (by kernel_rfl) (by simp) ?_
  refine AllReadyH.cons rfl (fun K hK => ?_) AllReadyH.nil
  rw [if_pos (by rfl)]
  simp only [List.getElem_toArray, List.getElem_cons_zero, List.getElem_cons_succ]
  go_simp
  refine (mul_f (cax.below hB).num c6.num (tP.below hB)).mono ?_; rintro e_ w5 ⟨v10, rfl, hn, hb⟩
  dsimp only
  have c10 := hn.fp
  have r10 := hn.mono (Nat.succ_le_of_lt hk2.lt)
  replace hB := hB.trans (hb.mono hB.size)
  replace hk1 := hk1.keep hb
  replace hk2 := hk2.keep hb
  replace c6 := c6.below hb
  clear hb hn
  refine hK.out _ _ hk1 (fun hS => ?_)
  refine wpAnyH_ready (rs := [7]) (by kernel_rfl) (by simp) ?_
  refine AllReadyH.cons rfl (fun K hK => ?_) AllReadyH.nil
  rw [if_pos (by rfl)]
  simp only [List.getElem_toArray, List.getElem_cons_zero, List.getElem_cons_succ]
  go_simp
  refine (mul_f (cay.below hB).num c6.num (tP.below hB)).mono ?_; rintro e_ w6 ⟨v14, rfl, hn, hb⟩
  dsimp only
  have c14 := hn.fp
  have r14 := hn.mono (Nat.succ_le_of_lt hk2.lt)
  have ap10_14 := NatRes.apart r10 hn
  replace hB := hB.trans (hb.mono hB.size)
  replace hk1 := hk1.keep hb
  replace hk2 := hk2.keep hb
  replace c6 := c6.below hb
  replace c10 := c10.below hb
  replace r10 := r10.below hb
  clear hb hn
  refine hK.out _ _ hk1 (fun hS => ?_)
  obtain ⟨a10_, n10_, p10_, rfl⟩ := c10.sliced
  obtain ⟨a14_, n14_, p14_, rfl⟩ := c14.sliced
  refine wpAnyH_ready (rs := [8]) (by kernel_rfl) (by simp) ?_
  refine AllReadyH.cons rfl (fun K hK => ?_) AllReadyH.nil
  rw [if_pos (by rfl)]
  simp only [List.getElem_toArray, List.getElem_cons_zero, List.getElem_cons_succ]
  go_simp
  refine hK.out _ _ hS (fun hS => ?_)
  refine wpAnyH_ready (rs := [9]) (by kernel_rfl) (by simp) ?_
  refine AllReadyH.cons rfl (fun K hK => ?_) AllReadyH.nil
  rw [if_pos (by rfl)]
  simp only [List.getElem_toArray, List.getElem_cons_zero, List.getElem_cons_succ]
  refine wp_store_agg 29 _ _ rfl g2 29 [(.slice none 0 0), (.slice none 0 0), (.bool false)] [(.slice a10_ n10_ p10_), (.slice a14_ n14_ p14_), (.bool false)] rfl rfl hk2 size_pt (by intro v_ hv_; simp only [List.mem_cons, List.not_mem_nil, or_false] at hv_; rcases hv_ with rfl | rfl | rfl <;> first | rfl | exact c10.one_cell | exact c14.one_cell) rfl ?_
  intro w7 hn hg
  replace hB := hB.grown hg hB.size (by intro k_ hk_; cases hk_; exact HG2.out)
  replace hk1 := hk1.grown hg (fun e_ => NE1_2.out (Option.some.inj e_))
  replace hk2 := hn
  clear c6
  clear c10
  replace r10 := r10.past hg
  clear c14
  replace r14 := r14.past hg
  clear hn hg
  refine hK.out _ _ hk1 (fun hS => ?_)
  refine wpAnyH_done (by kernel_rfl) ?_ _
  clear hS
  go_wp2_with fail
  refine bodyPost_ret (results_agg rfl rfl hk2 Tryd.underlying29 rfl size_pt) rfl ?_
  exact ⟨_, rfl, ⟨_, _, rfl, r10.mono (Nat.le_succ_of_le HG2.out), r14.mono (Nat.le_succ_of_le HG2.out), ap10_14⟩, hB⟩
set_option maxHeartbeats 4000000 in
set_option maxRecDepth 20000 in
theorem spotOf_c {va : Value} {P : Pt} {w : World} (ha : PtIn w va P.1.val P.2.val false) (tP : TabAt w 0 limbP) :
    Calls Tryd.prog 55 #[va] w (SpPost (Sp.of P) w) := by
  obtain ⟨vx, vy, rfl, nx, ny⟩ := ha
  go_enter Tryd.func55, Tryd.ntmps55
  have hB := Below.refl w.heap.size w
  go_wp2_with (refine wpList_box_agg rfl 29 _ rfl [vx, vy, .bool false] rfl ?_)
  intro w1 hk1 hb
  have hz_ := hB.size
  replace hB := hB.trans (hb.mono hB.size)
  clear hb
  obtain ⟨g1, hg_⟩ : ∃ g, g = w.heap.size := ⟨_, rfl⟩
  rw [← hg_] at hk1 ⊢
  have HG1 : Hid (w.heap.size ≤ g1) := Lib.hid (by rw [hg_]; exact hz_)
  clear hg_ hz_
  go_wp2_with (refine wpList_alloc_agg rfl 67 rfl [(.slice none 0 0), (.slice none 0 0), (.slice none 0 0), (.slice none 0 0)] 4 (by kernel_rfl) ?_)
  intro w2 hk2 hb
  have hz_ := hB.size
  have lt1_ := hk1.lt
  replace hB := hB.trans (hb.mono hB.size)
  replace hk1 := hk1.keep hb
  clear hb
  obtain ⟨g2, hg_⟩ : ∃ g, g = w1.heap.size := ⟨_, rfl⟩
  rw [← hg_] at hk2 ⊢
  have HG2 : Hid (w.heap.size ≤ g2) := Lib.hid (by rw [hg_]; exact hz_)
  have NE1_2 : Hid (g1 ≠ g2) := Lib.hid (by rw [hg_]; exact Nat.ne_of_lt lt1_)
  clear hg_ hz_ lt1_
  go_wp2_with fail
  refine wp_region_held_drew (S := fun W_ => Rw W_ g1 29 [vx, vy, .bool false]) (by kernel_rfl) (hk1) (fun hS => ?_)
  have hb := below_drewN (Below.refl w2.heap.size w2) 1
  obtain ⟨w3, hw_⟩ : ∃ x, x = World.drew w2 := ⟨_, rfl⟩
  rw [show World.drewN w2 1 = w3 from hw_.symm] at hb
  rw [← hw_] at hS ⊢
  clear hw_
  replace hB := hB.trans (hb.mono hB.size)
  replace hk1 := hk1.keep hb
  replace hk2 := hk2.keep hb
  clear hb
  refine wpAnyH_take (i := 0) (v := ?_) rfl (by kernel_rfl) (by kernel_rfl) (by kernel_rfl) (fun _ _ _ h => h) (Or.inl ⟨by rfl, ?_⟩) hS ?_
  rotate_left
  · intro w _; go_simp; try with_reducible rfl
  simp only [List.getElem_toArray, List.getElem_cons_zero, List.getElem_cons_succ, Act.put, List.setIfInBounds_toArray, List.set_cons_zero, List.set_cons_succ]
  refine wpAnyH_take (i := 1) (v := ?_) rfl (by kernel_rfl) (by kernel_rfl) (by kernel_rfl) (fun _ _ _ h => h) (Or.inl ⟨by rfl, ?_⟩) hS ?_
  rotate_left
  · intro W_ hW_; have c_ := Rw.cell hW_ 0 rfl; go_simp; try with_reducible rfl
  simp only [List.getElem_toArray, List.getElem_cons_zero, List.getElem_cons_succ, Act.put, List.setIfInBounds_toArray, List.set_cons_zero, List.set_cons_succ]
  refine wpAnyH_take (i := 3) (v := ?_) rfl (by kernel_rfl) (by kernel_rfl) (by kernel_rfl) (fun _ _ _ h => h) (Or.inl ⟨by rfl, ?_⟩) hS ?_
  rotate_left
  · intro w _; go_simp; try with_reducible rfl
  simp only [List.getElem_toArray, List.getElem_cons_zero, List.getElem_cons_succ, Act.put, List.setIfInBounds_toArray, List.set_cons_zero, List.set_cons_succ]
  refine wpAnyH_take (i := 4) (v := ?_) rfl (by kernel_rfl) (by kernel_rfl) (by kernel_rfl) (fun _ _ _ h => h) (Or.inl ⟨by rfl, ?_⟩) hS ?_
  rotate_left
  · intro W_ hW_; have c_ := Rw.cell hW_ 1 rfl; go_simp; try with_reducible rfl
  simp only [List.getElem_toArray, List.getElem_cons_zero, List.getElem_cons_succ, Act.put, List.setIfInBounds_toArray, List.set_cons_zero, List.set_cons_succ]
  refine wpAnyH_take (i := 7) (v := ?_) rfl (by kernel_rfl) (by kernel_rfl) (by kernel_rfl) (fun _ _ _ h => h) (Or.inl ⟨by rfl, ?_⟩) hS ?_
  rotate_left
  · intro w _; go_simp; try with_reducible rfl
  simp only [List.getElem_toArray, List.getElem_cons_zero, List.getElem_cons_succ, Act.put, List.setIfInBounds_toArray, List.set_cons_zero, List.set_cons_succ]
  refine wpAnyH_take (i := 8) (v := ?_) rfl (by kernel_rfl) (by kernel_rfl) (by kernel_rfl) (fun _ _ _ h => h) (Or.inl ⟨by rfl, ?_⟩) hS ?_
  rotate_left
  · intro W_ hW_; have c_ := Rw.cell hW_ 0 rfl; go_simp; try with_reducible rfl
  simp only [List.getElem_toArray, List.getElem_cons_zero, List.getElem_cons_succ, Act.put, List.setIfInBounds_toArray, List.set_cons_zero, List.set_cons_succ]
  refine wpAnyH_take (i := 9) (v := ?_) rfl (by kernel_rfl) (by kernel_rfl) (by kernel_rfl) (fun _ _ _ h => h) (Or.inl ⟨by rfl, ?_⟩) hS ?_
  rotate_left
  · intro w _; go_simp; try with_reducible rfl
  simp only [List.getElem_toArray, List.getElem_cons_zero, List.getElem_cons_succ, Act.put, List.setIfInBounds_toArray, List.set_cons_zero, List.set_cons_succ]
  refine wpAnyH_take (i := 10) (v := ?_) rfl (by kernel_rfl) (by kernel_rfl) (by kernel_rfl) (fun _ _ _ h => h) (Or.inl ⟨by rfl, ?_⟩) hS ?_
  rotate_left
  · intro W_ hW_; have c_ := Rw.cell hW_ 1 rfl; go_simp; try with_reducible rfl
  simp only [List.getElem_toArray, List.getElem_cons_zero, List.getElem_cons_succ, Act.put, List.setIfInBounds_toArray, List.set_cons_zero, List.set_cons_succ]
  refine wpAnyH_ready (rs := [2, 6]) (by kernel_rfl) (by simp) ?_
  refine AllReadyH.cons rfl (fun K hK => ?_) (AllReadyH.cons rfl (fun K hK => ?_) AllReadyH.nil) <;> rw [if_pos (by rfl)] <;> simp only [List.getElem_toArray, List.getElem_cons_zero, List.getElem_cons_succ]
  · skip
    go_simp
    refine (rest_f (nx.below hB) (tP.below hB)).mono ?_; rintro e_ w4 ⟨v5, rfl, hn, hb⟩
    dsimp only
    have c5 := hn.fp
    have r5 := hn.mono (Nat.succ_le_of_lt hk2.lt)
    replace hB := hB.trans (hb.mono hB.size)
    replace hk1 := hk1.keep hb
    replace hk2 := hk2.keep hb
    clear hb hn
    refine hK.out _ _ hk1 (fun hS => ?_)
    refine wpAnyH_ready (rs := [5, 6]) (by kernel_rfl) (by simp) ?_
    refine AllReadyH.cons rfl (fun K hK => ?_) (AllReadyH.cons rfl (fun K hK => ?_) AllReadyH.nil) <;> rw [if_pos (by rfl)] <;> simp only [List.getElem_toArray, List.getElem_cons_zero, List.getElem_cons_succ]
    · skip
      go_simp
      refine (rest_f (ny.below hB) (tP.below hB)).mono ?_; rintro e_ w5 ⟨v8, rfl, hn, hb⟩
      dsimp only
      have c8 := hn.fp
      have r8 := hn.mono (Nat.succ_le_of_lt hk2.lt)
      replace hB := hB.trans (hb.mono hB.size)
      replace hk1 := hk1.keep hb
      replace hk2 := hk2.keep hb
      replace c5 := c5.below hb
      replace r5 := r5.below hb
      clear hb hn
      refine hK.out _ _ hk1 (fun hS => ?_)
      refine wpAnyH_ready (rs := [6, 11]) (by kernel_rfl) (by simp) ?_
      refine AllReadyH.cons rfl (fun K hK => ?_) (AllReadyH.cons rfl (fun K hK => ?_) AllReadyH.nil) <;> rw [if_pos (by rfl)] <;> simp only [List.getElem_toArray, List.getElem_cons_zero, List.getElem_cons_succ]
      · skip
        refine wp_lit 27 36 _ rfl Tryd.underlying27 info32e 1 rfl ?_
        intro w6 hl hb
        have r9 := NatRes.lit (c := 1) hl (Nat.succ_le_of_lt hk2.lt) (by omega) (by omega)
        have c9 := (NatRes.lit (c := 1) hl (Nat.zero_le _) (by omega) (by omega)).can (k := 1) (by exact ⟨by decide⟩) (by omega)
        replace c9 : CanAt w6 _ (1 : Fp).val := c9
        replace r9 : NatRes _ w6 _ (1 : Fp).val := r9
        obtain ⟨v9, hv9⟩ : ∃ v, v = Value.slice (some ⟨w5.heap.size, 0, none⟩) 1 1 := ⟨_, rfl⟩
        rw [← hv9] at c9 r9 ⊢
        clear hv9 hl
        replace hB := hB.trans (hb.mono hB.size)
        replace hk1 := hk1.keep hb
        replace hk2 := hk2.keep hb
        replace c5 := c5.below hb
        replace r5 := r5.below hb
        replace c8 := c8.below hb
        replace r8 := r8.below hb
        clear hb
        refine hK.out _ _ hk1 (fun hS => ?_)
        refine wpAnyH_ready (rs := [11]) (by kernel_rfl) (by simp) ?_
        refine AllReadyH.cons rfl (fun K hK => ?_) AllReadyH.nil
        rw [if_pos (by rfl)]
        simp only [List.getElem_toArray, List.getElem_cons_zero, List.getElem_cons_succ]
        go_simp
        refine (mul_f (nx.below hB) (ny.below hB) (tP.below hB)).mono ?_; rintro e_ w7 ⟨v14, rfl, hn, hb⟩
        dsimp only
        have c14 := hn.fp
        have r14 := hn.mono (Nat.succ_le_of_lt hk2.lt)
        replace hB := hB.trans (hb.mono hB.size)
        replace hk1 := hk1.keep hb
        replace hk2 := hk2.keep hb
        replace c5 := c5.below hb
        replace r5 := r5.below hb
        replace c8 := c8.below hb
        replace r8 := r8.below hb
        replace c9 := c9.below hb
        replace r9 := r9.below hb
        clear hb hn
        refine hK.out _ _ hk1 (fun hS => ?_)
        obtain ⟨a5_, n5_, p5_, rfl⟩ := c5.sliced
        obtain ⟨a8_, n8_, p8_, rfl⟩ := c8.sliced
        obtain ⟨a9_, n9_, p9_, rfl⟩ := c9.sliced
        obtain ⟨a14_, n14_, p14_, rfl⟩ := c14.sliced
        refine wpAnyH_ready (rs := [12]) (by kernel_rfl) (by simp) ?_
        refine AllReadyH.cons rfl (fun K hK => ?_) AllReadyH.nil
        rw [if_pos (by rfl)]
        simp only [List.getElem_toArray, List.getElem_cons_zero, List.getElem_cons_succ]
        go_simp
        refine hK.out _ _ hS (fun hS => ?_)
        refine wpAnyH_ready (rs := [13]) (by kernel_rfl) (by simp) ?_
        refine AllReadyH.cons rfl (fun K hK => ?_) AllReadyH.nil
        rw [if_pos (by rfl)]
        simp only [List.getElem_toArray, List.getElem_cons_zero, List.getElem_cons_succ]
        refine wp_store_agg 67 _ _ rfl g2 67 [(.slice none 0 0), (.slice none 0 0), (.slice none 0 0), (.slice none 0 0)] [(.slice a5_ n5_ p5_), (.slice a8_ n8_ p8_), (.slice a9_ n9_ p9_), (.slice a14_ n14_ p14_)] rfl rfl hk2 size_spot (by intro v_ hv_; simp only [List.mem_cons, List.not_mem_nil, or_false] at hv_; rcases hv_ with rfl | rfl | rfl | rfl <;> first | rfl | exact c5.one_cell | exact c8.one_cell | exact c9.one_cell | exact c14.one_cell) rfl ?_
        intro w8 hn hg
        replace hB := hB.grown hg hB.size (by intro k_ hk_; cases hk_; exact HG2.out)
        replace hk1 := hk1.grown hg (fun e_ => NE1_2.out (Option.some.inj e_))
        replace hk2 := hn
        clear c5
        replace r5 := r5.past hg
        clear c8
        replace r8 := r8.past hg
        clear c9
        replace r9 := r9.past hg
        clear c14
        replace r14 := r14.past hg
        clear hn hg
        refine hK.out _ _ hk1 (fun hS => ?_)
        refine wpAnyH_done (by kernel_rfl) ?_ _
        clear hS
        go_wp2_with fail
        refine bodyPost_ret (results_agg rfl rfl hk2 Tryd.underlying67 rfl size_spot) rfl ?_
        exact ⟨_, rfl, ⟨_, _, _, _, rfl, r5.mono (Nat.le_succ_of_le HG2.out), r8.mono (Nat.le_succ_of_le HG2.out), r9.mono (Nat.le_succ_of_le HG2.out), r14.mono (Nat.le_succ_of_le HG2.out)⟩, hB⟩
      · skip
        go_simp
        refine (mul_f (nx.below hB) (ny.below hB) (tP.below hB)).mono ?_; rintro e_ w6 ⟨v14, rfl, hn, hb⟩
        dsimp only
        have c14 := hn.fp
        have r14 := hn.mono (Nat.succ_le_of_lt hk2.lt)
        replace hB := hB.trans (hb.mono hB.size)
        replace hk1 := hk1.keep hb
        replace hk2 := hk2.keep hb
        replace c5 := c5.below hb
        replace r5 := r5.below hb
        replace c8 := c8.below hb
        replace r8 := r8.below hb
        clear hb hn
        refine hK.out _ _ hk1 (fun hS => ?_)
        refine wpAnyH_ready (rs := [6]) (by kernel_rfl) (by simp) ?_
        refine AllReadyH.cons rfl (fun K hK => ?_) AllReadyH.nil
        rw [if_pos (by rfl)]
        simp only [List.getElem_toArray, List.getElem_cons_zero, List.getElem_cons_succ]
        refine wp_lit 27 36 _ rfl Tryd.underlying27 info32e 1 rfl ?_
        intro w7 hl hb
        have r9 := NatRes.lit (c := 1) hl (Nat.succ_le_of_lt hk2.lt) (by omega) (by omega)
        have c9 := (NatRes.lit (c := 1) hl (Nat.zero_le _) (by omega) (by omega)).can (k := 1) (by exact ⟨by decide⟩) (by omega)
        replace c9 : CanAt w7 _ (1 : Fp).val := c9
        replace r9 : NatRes _ w7 _ (1 : Fp).val := r9
        obtain ⟨v9, hv9⟩ : ∃ v, v = Value.slice (some ⟨w6.heap.size, 0, none⟩) 1 1 := ⟨_, rfl⟩
        rw [← hv9] at c9 r9 ⊢
        clear hv9 hl
        replace hB := hB.trans (hb.mono hB.size)
        replace hk1 := hk1.keep hb
        replace hk2 := hk2.keep hb
        replace c5 := c5.below hb
        replace r5 := r5.below hb
        replace c8 := c8.below hb
        replace r8 := r8.below hb
        replace c14 := c14.below hb
        replace r14 := r14.below hb
        clear hb
        refine hK.out _ _ hk1 (fun hS => ?_)
        obtain ⟨a5_, n5_, p5_, rfl⟩ := c5.sliced
        obtain ⟨a8_, n8_, p8_, rfl⟩ := c8.sliced
        obtain ⟨a9_, n9_, p9_, rfl⟩ := c9.sliced
        obtain ⟨a14_, n14_, p14_, rfl⟩ := c14.sliced
        refine wpAnyH_ready (rs := [12]) (by kernel_rfl) (by simp) ?_
        refine AllReadyH.cons rfl (fun K hK => ?_) AllReadyH.nil
        rw [if_pos (by rfl)]
        simp only [List.getElem_toArray, List.getElem_cons_zero, List.getElem_cons_succ]
        go_simp
        refine hK.out _ _ hS (fun hS => ?_)
        refine wpAnyH_ready (rs := [13]) (by kernel_rfl) (by simp) ?_
        refine AllReadyH.cons rfl (fun K hK => ?_) AllReadyH.nil
        rw [if_pos (by rfl)]
        simp only [List.getElem_toArray, List.getElem_cons_zero, List.getElem_cons_succ]
        refine wp_store_agg 67 _ _ rfl g2 67 [(.slice none 0 0), (.slice none 0 0), (.slice none 0 0), (.slice none 0 0)] [(.slice a5_ n5_ p5_), (.slice a8_ n8_ p8_), (.slice a9_ n9_ p9_), (.slice a14_ n14_ p14_)] rfl rfl hk2 size_spot (by intro v_ hv_; simp only [List.mem_cons, List.not_mem_nil, or_false] at hv_; rcases hv_ with rfl | rfl | rfl | rfl <;> first | rfl | exact c5.one_cell | exact c8.one_cell | exact c9.one_cell | exact c14.one_cell) rfl ?_
        intro w8 hn hg
        replace hB := hB.grown hg hB.size (by intro k_ hk_; cases hk_; exact HG2.out)
        replace hk1 := hk1.grown hg (fun e_ => NE1_2.out (Option.some.inj e_))
        replace hk2 := hn
        clear c5
        replace r5 := r5.past hg
        clear c8
        replace r8 := r8.past hg
        clear c14
        replace r14 := r14.past hg
        clear c9
        replace r9 := r9.past hg
        clear hn hg
        refine hK.out _ _ hk1 (fun hS => ?_)
        refine wpAnyH_done (by kernel_rfl) ?_ _
        clear hS
        go_wp2_with fail
        refine bodyPost_ret (results_agg rfl rfl hk2 Tryd.underlying67 rfl size_spot) rfl ?_
        exact ⟨_, rfl, ⟨_, _, _, _, rfl, r5.mono (Nat.le_succ_of_le HG2.out), r8.mono (Nat.le_succ_of_le HG2.out), r9.mono (Nat.le_succ_of_le HG2.out), r14.mono (Nat.le_succ_of_le HG2.out)⟩, hB⟩
    · skip
      refine wp_lit 27 36 _ rfl Tryd.underlying27 info32e 1 rfl ?_
      intro w5 hl hb
      have r9 := NatRes.lit (c := 1) hl (Nat.succ_le_of_lt hk2.lt) (by omega) (by omega)
      have c9 := (NatRes.lit (c := 1) hl (Nat.zero_le _) (by omega) (by omega)).can (k := 1) (by exact ⟨by decide⟩) (by omega)
      replace c9 : CanAt w5 _ (1 : Fp).val := c9
      replace r9 : NatRes _ w5 _ (1 : Fp).val := r9
      obtain ⟨v9, hv9⟩ : ∃ v, v = Value.slice (some ⟨w4.heap.size, 0, none⟩) 1 1 := ⟨_, rfl⟩
      rw [← hv9] at c9 r9 ⊢
      clear hv9 hl
      replace hB := hB.trans (hb.mono hB.size)
      replace hk1 := hk1.keep hb
      replace hk2 := hk2.keep hb
      replace c5 := c5.below hb
      replace r5 := r5.below hb
      clear hb
      refine hK.out _ _ hk1 (fun hS => ?_)
      refine wpAnyH_ready (rs := [5]) (by kernel_rfl) (by simp) ?_
      refine AllReadyH.cons rfl (fun K hK => ?_) AllReadyH.nil
      rw [if_pos (by rfl)]
      simp only [List.getElem_toArray, List.getElem_cons_zero, List.getElem_cons_succ]
      go_simp
      refine (rest_f (ny.below hB) (tP.below hB)).mono ?_; rintro e_ w6 ⟨v8, rfl, hn, hb⟩
      dsimp only
      have c8 := hn.fp
      have r8 := hn.mono (Nat.succ_le_of_lt hk2.lt)
      replace hB := hB.trans (hb.mono hB.size)
      replace hk1 := hk1.keep hb
      replace hk2 := hk2.keep hb
      replace c5 := c5.below hb
      replace r5 := r5.below hb
      replace c9 := c9.below hb
      replace r9 := r9.below hb
      clear hb hn
      refine hK.out _ _ hk1 (fun hS => ?_)
      refine wpAnyH_ready (rs := [11]) (by kernel_rfl) (by simp) ?_
      refine AllReadyH.cons rfl (fun K hK => ?_) AllReadyH.nil
      rw [if_pos (by rfl)]
      simp only [List.getElem_toArray, List.getElem_cons_zero, List.getElem_cons_succ]
      go_simp
      refine (mul_f (nx.below hB) (ny.below hB) (tP.below hB)).mono ?_; rintro e_ w7 ⟨v14, rfl, hn, hb⟩
      dsimp only
      have c14 := hn.fp
      have r14 := hn.mono (Nat.succ_le_of_lt hk2.lt)
      replace hB := hB.trans (hb.mono hB.size)
      replace hk1 := hk1.keep hb
      replace hk2 := hk2.keep hb
      replace c5 := c5.below hb
      replace r5 := r5.below hb
      replace c9 := c9.below hb
      replace r9 := r9.below hb
      replace c8 := c8.below hb
      replace r8 := r8.below hb
      clear hb hn
      refine hK.out _ _ hk1 (fun hS => ?_)
      obtain ⟨a5_, n5_, p5_, rfl⟩ := c5.sliced
      obtain ⟨a8_, n8_, p8_, rfl⟩ := c8.sliced
      obtain ⟨a9_, n9_, p9_, rfl⟩ := c9.sliced
      obtain ⟨a14_, n14_, p14_, rfl⟩ := c14.sliced
      refine wpAnyH_ready (rs := [12]) (by kernel_rfl) (by simp) ?_
      refine AllReadyH.cons rfl (fun K hK => ?_) AllReadyH.nil
      rw [if_pos (by rfl)]
      simp only [List.getElem_toArray, List.getElem_cons_zero, List.getElem_cons_succ]
      go_simp
      refine hK.out _ _ hS (fun hS => ?_)
      refine wpAnyH_ready (rs := [13]) (by kernel_rfl) (by simp) ?_
      refine AllReadyH.cons rfl (fun K hK => ?_) AllReadyH.nil
      rw [if_pos (by rfl)]
      simp only [List.getElem_toArray, List.getElem_cons_zero, List.getElem_cons_succ]
      refine wp_store_agg 67 _ _ rfl g2 67 [(.slice none 0 0), (.slice none 0 0), (.slice none 0 0), (.slice none 0 0)] [(.slice a5_ n5_ p5_), (.slice a8_ n8_ p8_), (.slice a9_ n9_ p9_), (.slice a14_ n14_ p14_)] rfl rfl hk2 size_spot (by intro v_ hv_; simp only [List.mem_cons, List.not_mem_nil, or_false] at hv_; rcases hv_ with rfl | rfl | rfl | rfl <;> first | rfl | exact c5.one_cell | exact c8.one_cell | exact c9.one_cell | exact c14.one_cell) rfl ?_
      intro w8 hn hg
      replace hB := hB.grown hg hB.size (by intro k_ hk_; cases hk_; exact HG2.out)
      replace hk1 := hk1.grown hg (fun e_ => NE1_2.out (Option.some.inj e_))
      replace hk2 := hn
      clear c5
      replace r5 := r5.past hg
      clear c9
      replace r9 := r9.past hg
      clear c8
      replace r8 := r8.past hg
      clear c14
      replace r14 := r14.past hg
      clear hn hg
      refine hK.out _ _ hk1 (fun hS => ?_)
      refine wpAnyH_done (by kernel_rfl) ?_ _
      clear hS
      go_wp2_with fail
      refine bodyPost_ret (results_agg rfl rfl hk2 Tryd.underlying67 rfl size_spot) rfl ?_
      exact ⟨_, rfl, ⟨_, _, _, _, rfl, r5.mono (Nat.le_succ_of_le HG2.out), r8.mono (Nat.le_succ_of_le HG2.out), r9.mono (Nat.le_succ_of_le HG2.out), r14.mono (Nat.le_succ_of_le HG2.out)⟩, hB⟩
  · skip
    refine wp_lit 27 36 _ rfl Tryd.underlying27 info32e 1 rfl ?_
    intro w4 hl hb
    have r9 := NatRes.lit (c := 1) hl (Nat.succ_le_of_lt hk2.lt) (by omega) (by omega)
    have c9 := (NatRes.lit (c := 1) hl (Nat.zero_le _) (by omega) (by omega)).can (k := 1) (by exact ⟨by decide⟩) (by omega)
    replace c9 : CanAt w4 _ (1 : Fp).val := c9
    replace r9 : NatRes _ w4 _ (1 : Fp).val := r9
    obtain ⟨v9, hv9⟩ : ∃ v, v = Value.slice (some ⟨w3.heap.size, 0, none⟩) 1 1 := ⟨_, rfl⟩
    rw [← hv9] at c9 r9 ⊢
    clear hv9 hl
    replace hB := hB.trans (hb.mono hB.size)
    replace hk1 := hk1.keep hb
    replace hk2 := hk2.keep hb
    clear hb
    refine hK.out _ _ hk1 (fun hS => ?_)
    refine wpAnyH_ready (rs := [2]) (by kernel_rfl) (by simp) ?_
    refine AllReadyH.cons rfl (fun K hK => ?_) AllReadyH.nil
    rw [if_pos (by rfl)]
    simp only [List.getElem_toArray, List.getElem_cons_zero, List.getElem_cons_succ]
    go_simp
    refine (rest_f (nx.below hB) (tP.below hB)).mono ?_; rintro e_ w5 ⟨v5, rfl, hn, hb⟩
    dsimp only
    have c5 := hn.fp
    have r5 := hn.mono (Nat.succ_le_of_lt hk2.lt)
    replace hB := hB.trans (hb.mono hB.size)
    replace hk1 := hk1.keep hb
    replace hk2 := hk2.keep hb
    replace c9 := c9.below hb
    replace r9 := r9.below hb
    clear hb hn
    refine hK.out _ _ hk1 (fun hS => ?_)
    refine wpAnyH_ready (rs := [5]) (by kernel_rfl) (by simp) ?_
    refine AllReadyH.cons rfl (fun K hK => ?_) AllReadyH.nil
    rw [if_pos (by rfl)]
    simp only [List.getElem_toArray, List.getElem_cons_zero, List.getElem_cons_succ]
    go_simp
    refine (rest_f (ny.below hB) (tP.below hB)).mono ?_; rintro e_ w6 ⟨v8, rfl, hn, hb⟩
    dsimp only
    have c8 := hn.fp
    have r8 := hn.mono (Nat.succ_le_of_lt hk2.lt)
    replace hB := hB.trans (hb.mono hB.size)
    replace hk1 := hk1.keep hb
    replace hk2 := hk2.keep hb
    replace c9 := c9.below hb
    replace r9 := r9.below hb
    replace c5 := c5.below hb
    replace r5 := r5.below hb
    clear hb hn
    refine hK.out _ _ hk1 (fun hS => ?_)
    refine wpAnyH_ready (rs := [11]) (by kernel_rfl) (by simp) ?_
    refine AllReadyH.cons rfl (fun K hK => ?_) AllReadyH.nil
    rw [if_pos (by rfl)]
    simp only [List.getElem_toArray, List.getElem_cons_zero, List.getElem_cons_succ]
    go_simp
    refine (mul_f (nx.below hB) (ny.below hB) (tP.below hB)).mono ?_; rintro e_ w7 ⟨v14, rfl, hn, hb⟩
    dsimp only
    have c14 := hn.fp
    have r14 := hn.mono (Nat.succ_le_of_lt hk2.lt)
    replace hB := hB.trans (hb.mono hB.size)
    replace hk1 := hk1.keep hb
    replace hk2 := hk2.keep hb
    replace c9 := c9.below hb
    replace r9 := r9.below hb
    replace c5 := c5.below hb
    replace r5 := r5.below hb
    replace c8 := c8.below hb
    replace r8 := r8.below hb
    clear hb hn
    refine hK.out _ _ hk1 (fun hS => ?_)
    obtain ⟨a5_, n5_, p5_, rfl⟩ := c5.sliced
    obtain ⟨a8_, n8_, p8_, rfl⟩ := c8.sliced
    obtain ⟨a9_, n9_, p9_, rfl⟩ := c9.sliced
    obtain ⟨a14_, n14_, p14_, rfl⟩ := c14.sliced
    refine wpAnyH_ready (rs := [12]) (by kernel_rfl) (by simp) ?_
    refine AllReadyH.cons rfl (fun K hK => ?_) AllReadyH.nil
    rw [if_pos (by rfl)]
    simp only [List.getElem_toArray, List.getElem_cons_zero, List.getElem_cons_succ]
    go_simp
    refine hK.out _ _ hS (fun hS => ?_)
    refine wpAnyH_ready (rs := [13]) (by kernel_rfl) (by simp) ?_
    refine AllReadyH.cons rfl (fun K hK => ?_) AllReadyH.nil
    rw [if_pos (by rfl)]
    simp only [List.getElem_toArray, List.getElem_cons_zero, List.getElem_cons_succ]
    refine wp_store_agg 67 _ _ rfl g2 67 [(.slice none 0 0), (.slice none 0 0), (.slice none 0 0), (.slice none 0 0)] [(.slice a5_ n5_ p5_), (.slice a8_ n8_ p8_), (.slice a9_ n9_ p9_), (.slice a14_ n14_ p14_)] rfl rfl hk2 size_spot (by intro v_ hv_; simp only [List.mem_cons, List.not_mem_nil, or_false] at hv_; rcases hv_ with rfl | rfl | rfl | rfl <;> first | rfl | exact c5.one_cell | exact c8.one_cell | exact c9.one_cell | exact c14.one_cell) rfl ?_
    intro w8 hn hg
    replace hB := hB.grown hg hB.size (by intro k_ hk_; cases hk_; exact HG2.out)
    replace hk1 := hk1.grown hg (fun e_ => NE1_2.out (Option.some.inj e_))
    replace hk2 := hn
    clear c9
    replace r9 := r9.past hg
    clear c5
    replace r5 := r5.past hg
    clear c8
    replace r8 := r8.past hg
    clear c14
    replace r14 := r14.past hg
    clear hn hg
    refine hK.out _ _ hk1 (fun hS => ?_)
    refine wpAnyH_done (by kernel_rfl) ?_ _
    clear hS
    go_wp2_with fail
    refine bodyPost_ret (results_agg rfl rfl hk2 Tryd.underlying67 rfl size_spot) rfl ?_
    exact ⟨_, rfl, ⟨_, _, _, _, rfl, r5.mono (Nat.le_succ_of_le HG2.out), r8.mono (Nat.le_succ_of_le HG2.out), r9.mono (Nat.le_succ_of_le HG2.out), r14.mono (Nat.le_succ_of_le HG2.out)⟩, hB⟩
end Go.Proofs.YtlolkighnnedfaaDoor
