import Derived.Test.YtlolkighnnedfaaDoorZ33
import Derived.Test.YtlolkighnnedfaaDoorZ23
/- signetref13: On, Add, Mul, by their contracts. (Printed by gen_edre.py.) -/
set_option linter.unusedVariables false
set_option linter.unusedSimpArgs false
namespace Go.Proofs.YtlolkighnnedfaaDoor
open Go.RowKit Go.Sg
theorem nl_bl (k : Nat) : nl k ≤ 32 ↔ bl k ≤ 1024 := by unfold nl; omega

set_option maxHeartbeats 4000000 in
set_option maxRecDepth 20000 in
theorem rOn_c {va : Value} {X Y : Nat} {inf : Bool} {w : World} (ha : PtIn w va X Y inf) :
    Calls Tryd.prog 71 #[va] w (fun e w' => e = .returned (.bool (onB X Y inf)) ∧ Below w.heap.size w w') := by
  obtain ⟨vx, vy, rfl, nx, ny⟩ := ha
  cases hinf : inf with
  | true =>
    have HE := Lib.hid (onB_inf X Y)
    clear hinf
    go_enter Tryd.func71, Tryd.ntmps71
    have hB := Below.refl w.heap.size w
    go_wp2_with (refine wpList_box_agg rfl 29 _ rfl [vx, vy, .bool true] rfl ?_)
    intro w1 hk1 hb
    have hz_ := hB.size
    replace hB := hB.trans (hb.mono hB.size)
    clear hb
    obtain ⟨g1, hg_⟩ : ∃ g, g = w.heap.size := ⟨_, rfl⟩
    rw [← hg_] at hk1 ⊢
    have HG1 : Hid (w.heap.size ≤ g1) := Lib.hid (by rw [hg_]; exact hz_)
    clear hg_ hz_
    go_wp2_with fail
    refine wp_region_held_drew (S := fun W_ => Rw W_ g1 29 [vx, vy, .bool true]) (by kernel_rfl) (hk1) (fun hS => ?_)
    have hb := below_drewN (Below.refl w1.heap.size w1) 1
    obtain ⟨w2, hw_⟩ : ∃ x, x = World.drew w1 := ⟨_, rfl⟩
    rw [show World.drewN w1 1 = w2 from hw_.symm] at hb
    rw [← hw_] at hS ⊢
    clear hw_
    replace hB := hB.trans (hb.mono hB.size)
    replace hk1 := hk1.keep hb
    clear hb
    refine wpAnyH_take (i := 0) (v := ?_) rfl (by kernel_rfl) (by kernel_rfl) (by kernel_rfl) (fun _ _ _ h => h) (Or.inl ⟨by rfl, ?_⟩) hS ?_
    rotate_left
    · intro w _; go_simp; try with_reducible rfl
    simp only [List.getElem_toArray, List.getElem_cons_zero, List.getElem_cons_succ, Act.put, List.setIfInBounds_toArray, List.set_cons_zero, List.set_cons_succ]
    refine wpAnyH_take (i := 1) (v := ?_) rfl (by kernel_rfl) (by kernel_rfl) (by kernel_rfl) (fun _ _ _ h => h) (Or.inl ⟨by rfl, ?_⟩) hS ?_
    rotate_left
    · intro W_ hW_; have c_ := Rw.cell hW_ 2 rfl; go_simp; try with_reducible rfl
    simp only [List.getElem_toArray, List.getElem_cons_zero, List.getElem_cons_succ, Act.put, List.setIfInBounds_toArray, List.set_cons_zero, List.set_cons_succ]
    refine wpAnyH_ready (rs := [2]) (by kernel_rfl) (by simp) ?_
    refine AllReadyH.cons rfl (fun K hK => ?_) AllReadyH.nil
    rw [if_pos (by rfl)]
    simp only [List.getElem_toArray, List.getElem_cons_zero, List.getElem_cons_succ]
    go_simp
    refine hK.out _ _ hS (fun hS => ?_)
    refine wpAnyH_take (i := 3) (v := undef) rfl (by kernel_rfl) (by kernel_rfl) (by kernel_rfl) (fun _ _ _ h => h) (Or.inr ⟨by rfl, rfl⟩) hS ?_
    simp only [List.getElem_toArray, List.getElem_cons_zero, List.getElem_cons_succ, Act.put, List.setIfInBounds_toArray, List.set_cons_zero, List.set_cons_succ]
    refine wpAnyH_take (i := 4) (v := undef) rfl (by kernel_rfl) (by kernel_rfl) (by kernel_rfl) (fun _ _ _ h => h) (Or.inr ⟨by rfl, rfl⟩) hS ?_
    simp only [List.getElem_toArray, List.getElem_cons_zero, List.getElem_cons_succ, Act.put, List.setIfInBounds_toArray, List.set_cons_zero, List.set_cons_succ]
    refine wpAnyH_take (i := 5) (v := undef) rfl (by kernel_rfl) (by kernel_rfl) (by kernel_rfl) (fun _ _ _ h => h) (Or.inr ⟨by rfl, rfl⟩) hS ?_
    simp only [List.getElem_toArray, List.getElem_cons_zero, List.getElem_cons_succ, Act.put, List.setIfInBounds_toArray, List.set_cons_zero, List.set_cons_succ]
    refine wpAnyH_take (i := 6) (v := undef) rfl (by kernel_rfl) (by kernel_rfl) (by kernel_rfl) (fun _ _ _ h => h) (Or.inr ⟨by rfl, rfl⟩) hS ?_
    simp only [List.getElem_toArray, List.getElem_cons_zero, List.getElem_cons_succ, Act.put, List.setIfInBounds_toArray, List.set_cons_zero, List.set_cons_succ]
    refine wpAnyH_take (i := 7) (v := undef) rfl (by kernel_rfl) (by kernel_rfl) (by kernel_rfl) (fun _ _ _ h => h) (Or.inr ⟨by rfl, rfl⟩) hS ?_
    simp only [List.getElem_toArray, List.getElem_cons_zero, List.getElem_cons_succ, Act.put, List.setIfInBounds_toArray, List.set_cons_zero, List.set_cons_succ]
    refine wpAnyH_ready (rs := [8]) (by kernel_rfl) (by simp) ?_
    refine AllReadyH.cons rfl (fun K hK => ?_) AllReadyH.nil
    rw [if_pos (by rfl)]
    simp only [List.getElem_toArray, List.getElem_cons_zero, List.getElem_cons_succ]
    go_simp
    refine hK.out _ _ hS (fun hS => ?_)
    refine wpAnyH_ready (rs := [9]) (by kernel_rfl) (by simp) ?_
    refine AllReadyH.cons rfl (fun K hK => ?_) AllReadyH.nil
    rw [if_pos (by rfl)]
    simp only [List.getElem_toArray, List.getElem_cons_zero, List.getElem_cons_succ]
    go_simp
    refine hK.out _ _ hS (fun hS => ?_)
    refine wpAnyH_take (i := 10) (v := undef) rfl (by kernel_rfl) (by kernel_rfl) (by kernel_rfl) (fun _ _ _ h => h) (Or.inr ⟨by rfl, rfl⟩) hS ?_
    simp only [List.getElem_toArray, List.getElem_cons_zero, List.getElem_cons_succ, Act.put, List.setIfInBounds_toArray, List.set_cons_zero, List.set_cons_succ]
    refine wpAnyH_take (i := 11) (v := undef) rfl (by kernel_rfl) (by kernel_rfl) (by kernel_rfl) (fun _ _ _ h => h) (Or.inr ⟨by rfl, rfl⟩) hS ?_
    simp only [List.getElem_toArray, List.getElem_cons_zero, List.getElem_cons_succ, Act.put, List.setIfInBounds_toArray, List.set_cons_zero, List.set_cons_succ]
    refine wpAnyH_take (i := 12) (v := undef) rfl (by kernel_rfl) (by kernel_rfl) (by kernel_rfl) (fun _ _ _ h => h) (Or.inr ⟨by rfl, rfl⟩) hS ?_
    simp only [List.getElem_toArray, List.getElem_cons_zero, List.getElem_cons_succ, Act.put, List.setIfInBounds_toArray, List.set_cons_zero, List.set_cons_succ]
    refine wpAnyH_take (i := 13) (v := undef) rfl (by kernel_rfl) (by kernel_rfl) (by kernel_rfl) (fun _ _ _ h => h) (Or.inr ⟨by rfl, rfl⟩) hS ?_
    simp only [List.getElem_toArray, List.getElem_cons_zero, List.getElem_cons_succ, Act.put, List.setIfInBounds_toArray, List.set_cons_zero, List.set_cons_succ]
    refine wpAnyH_take (i := 14) (v := undef) rfl (by kernel_rfl) (by kernel_rfl) (by kernel_rfl) (fun _ _ _ h => h) (Or.inr ⟨by rfl, rfl⟩) hS ?_
    simp only [List.getElem_toArray, List.getElem_cons_zero, List.getElem_cons_succ, Act.put, List.setIfInBounds_toArray, List.set_cons_zero, List.set_cons_succ]
    refine wpAnyH_ready (rs := [15]) (by kernel_rfl) (by simp) ?_
    refine AllReadyH.cons rfl (fun K hK => ?_) AllReadyH.nil
    rw [if_pos (by rfl)]
    simp only [List.getElem_toArray, List.getElem_cons_zero, List.getElem_cons_succ]
    go_simp
    refine hK.out _ _ hS (fun hS => ?_)
    refine wpAnyH_done (by kernel_rfl) ?_ _
    clear hS
    go_wp2_with fail
    go_ret
    exact ⟨by rw [HE.out]; first | done | rfl, hB⟩
  | false =>
    clear hinf
    by_cases hx : X < eP
    · by_cases hy : Y < eP
      · obtain ⟨x, rfl⟩ : ∃ x : Fp, X = x.val := ⟨⟨X, hx⟩, rfl⟩
        obtain ⟨y, rfl⟩ : ∃ y : Fp, Y = y.val := ⟨⟨Y, hy⟩, rfl⟩
        have HX := Lib.hid (cmpI_lt hx)
        have HY := Lib.hid (cmpI_lt hy)
        clear hx hy
        go_enter Tryd.func71, Tryd.ntmps71
        have hB := Below.refl w.heap.size w
        go_wp2_with (refine wpList_box_agg rfl 29 _ rfl [vx, vy, .bool false] rfl ?_)
        intro w1 hk1 hb
        have hz_ := hB.size
        replace hB := hB.trans (hb.mono hB.size)
        clear hb
        obtain ⟨g1, hg_⟩ : ∃ g, g = w.heap.size := ⟨_, rfl⟩
        rw [← hg_] at hk1 ⊢
        have HG1 : Hid (w.heap.size ≤ g1) := Lib.hid (by rw [hg_]; exact hz_)
        clear hg_ hz_
        go_wp2_with fail
        refine wp_region_held_drew (S := fun W_ => Rw W_ g1 29 [vx, vy, .bool false]) (by kernel_rfl) (hk1) (fun hS => ?_)
        have hb := below_drewN (Below.refl w1.heap.size w1) 1
        obtain ⟨w2, hw_⟩ : ∃ x, x = World.drew w1 := ⟨_, rfl⟩
        rw [show World.drewN w1 1 = w2 from hw_.symm] at hb
        rw [← hw_] at hS ⊢
        clear hw_
        replace hB := hB.trans (hb.mono hB.size)
        replace hk1 := hk1.keep hb
        clear hb
        refine wpAnyH_take (i := 0) (v := ?_) rfl (by kernel_rfl) (by kernel_rfl) (by kernel_rfl) (fun _ _ _ h => h) (Or.inl ⟨by rfl, ?_⟩) hS ?_
        rotate_left
        · intro w _; go_simp; try with_reducible rfl
        simp only [List.getElem_toArray, List.getElem_cons_zero, List.getElem_cons_succ, Act.put, List.setIfInBounds_toArray, List.set_cons_zero, List.set_cons_succ]
        refine wpAnyH_take (i := 1) (v := ?_) rfl (by kernel_rfl) (by kernel_rfl) (by kernel_rfl) (fun _ _ _ h => h) (Or.inl ⟨by rfl, ?_⟩) hS ?_
        rotate_left
        · intro W_ hW_; have c_ := Rw.cell hW_ 2 rfl; go_simp; try with_reducible rfl
        simp only [List.getElem_toArray, List.getElem_cons_zero, List.getElem_cons_succ, Act.put, List.setIfInBounds_toArray, List.set_cons_zero, List.set_cons_succ]
        refine wpAnyH_ready (rs := [2]) (by kernel_rfl) (by simp) ?_
        refine AllReadyH.cons rfl (fun K hK => ?_) AllReadyH.nil
        rw [if_pos (by rfl)]
        simp only [List.getElem_toArray, List.getElem_cons_zero, List.getElem_cons_succ]
        go_simp
        refine hK.out _ _ hS (fun hS => ?_)
        refine wpAnyH_take (i := 3) (v := ?_) rfl (by kernel_rfl) (by kernel_rfl) (by kernel_rfl) (fun _ _ _ h => h) (Or.inl ⟨by rfl, ?_⟩) hS ?_
        rotate_left
        · intro w _; go_simp; try with_reducible rfl
        simp only [List.getElem_toArray, List.getElem_cons_zero, List.getElem_cons_succ, Act.put, List.setIfInBounds_toArray, List.set_cons_zero, List.set_cons_succ]
        refine wpAnyH_take (i := 4) (v := ?_) rfl (by kernel_rfl) (by kernel_rfl) (by kernel_rfl) (fun _ _ _ h => h) (Or.inl ⟨by rfl, ?_⟩) hS ?_
        rotate_left
        · intro W_ hW_; have c_ := Rw.cell hW_ 0 rfl; go_simp; try with_reducible rfl
        simp only [List.getElem_toArray, List.getElem_cons_zero, List.getElem_cons_succ, Act.put, List.setIfInBounds_toArray, List.set_cons_zero, List.set_cons_succ]
        refine wpAnyH_ready (rs := [5]) (by kernel_rfl) (by simp) ?_
        refine AllReadyH.cons rfl (fun K hK => ?_) AllReadyH.nil
        rw [if_pos (by rfl)]
        simp only [List.getElem_toArray, List.getElem_cons_zero, List.getElem_cons_succ]
        go_simp
        refine (rP_c w2).mono ?_; rintro e_ w3 ⟨v12, rfl, c12, hb⟩
        dsimp only
        replace hB := hB.trans (hb.mono hB.size)
        replace hk1 := hk1.keep hb
        clear hb
        refine hK.out _ _ hk1 (fun hS => ?_)
        have h_ := cmp7_v (nx.below hB) c12.num
        rw [HX.out] at h_
        refine wpAnyH_ready (rs := [6]) (by kernel_rfl) (by simp) ?_
        refine AllReadyH.cons rfl (fun K hK => ?_) AllReadyH.nil
        rw [if_pos (by rfl)]
        simp only [List.getElem_toArray, List.getElem_cons_zero, List.getElem_cons_succ]
        go_simp
        refine (h_).mono ?_; rintro e_ w4 ⟨rfl, rfl⟩
        dsimp only
        refine hK.out _ _ hS (fun hS => ?_)
        refine wpAnyH_ready (rs := [7]) (by kernel_rfl) (by simp) ?_
        refine AllReadyH.cons rfl (fun K hK => ?_) AllReadyH.nil
        rw [if_pos (by rfl)]
        simp only [List.getElem_toArray, List.getElem_cons_zero, List.getElem_cons_succ]
        go_simp
        refine hK.out _ _ hS (fun hS => ?_)
        refine wpAnyH_ready (rs := [8]) (by kernel_rfl) (by simp) ?_
        refine AllReadyH.cons rfl (fun K hK => ?_) AllReadyH.nil
        rw [if_pos (by rfl)]
        simp only [List.getElem_toArray, List.getElem_cons_zero, List.getElem_cons_succ]
        go_simp
        refine hK.out _ _ hS (fun hS => ?_)
        refine wpAnyH_ready (rs := [9]) (by kernel_rfl) (by simp) ?_
        refine AllReadyH.cons rfl (fun K hK => ?_) AllReadyH.nil
        rw [if_pos (by rfl)]
        simp only [List.getElem_toArray, List.getElem_cons_zero, List.getElem_cons_succ]
        go_simp
        refine hK.out _ _ hS (fun hS => ?_)
        refine wpAnyH_take (i := 10) (v := ?_) rfl (by kernel_rfl) (by kernel_rfl) (by kernel_rfl) (fun _ _ _ h => h) (Or.inl ⟨by rfl, ?_⟩) hS ?_
        rotate_left
        · intro w _; go_simp; try with_reducible rfl
        simp only [List.getElem_toArray, List.getElem_cons_zero, List.getElem_cons_succ, Act.put, List.setIfInBounds_toArray, List.set_cons_zero, List.set_cons_succ]
        refine wpAnyH_take (i := 11) (v := ?_) rfl (by kernel_rfl) (by kernel_rfl) (by kernel_rfl) (fun _ _ _ h => h) (Or.inl ⟨by rfl, ?_⟩) hS ?_
        rotate_left
        · intro W_ hW_; have c_ := Rw.cell hW_ 1 rfl; go_simp; try with_reducible rfl
        simp only [List.getElem_toArray, List.getElem_cons_zero, List.getElem_cons_succ, Act.put, List.setIfInBounds_toArray, List.set_cons_zero, List.set_cons_succ]
        refine wpAnyH_ready (rs := [12]) (by kernel_rfl) (by simp) ?_
        refine AllReadyH.cons rfl (fun K hK => ?_) AllReadyH.nil
        rw [if_pos (by rfl)]
        simp only [List.getElem_toArray, List.getElem_cons_zero, List.getElem_cons_succ]
        go_simp
        refine (rP_c w3).mono ?_; rintro e_ w4 ⟨v19, rfl, c19, hb⟩
        dsimp only
        replace hB := hB.trans (hb.mono hB.size)
        replace hk1 := hk1.keep hb
        replace c12 := c12.below hb
        clear hb
        refine hK.out _ _ hk1 (fun hS => ?_)
        have h_ := cmp7_v (ny.below hB) c19.num
        rw [HY.out] at h_
        refine wpAnyH_ready (rs := [13]) (by kernel_rfl) (by simp) ?_
        refine AllReadyH.cons rfl (fun K hK => ?_) AllReadyH.nil
        rw [if_pos (by rfl)]
        simp only [List.getElem_toArray, List.getElem_cons_zero, List.getElem_cons_succ]
        go_simp
        refine (h_).mono ?_; rintro e_ w5 ⟨rfl, rfl⟩
        dsimp only
        refine hK.out _ _ hS (fun hS => ?_)
        refine wpAnyH_ready (rs := [14]) (by kernel_rfl) (by simp) ?_
        refine AllReadyH.cons rfl (fun K hK => ?_) AllReadyH.nil
        rw [if_pos (by rfl)]
        simp only [List.getElem_toArray, List.getElem_cons_zero, List.getElem_cons_succ]
        go_simp
        refine hK.out _ _ hS (fun hS => ?_)
        refine wpAnyH_ready (rs := [15]) (by kernel_rfl) (by simp) ?_
        refine AllReadyH.cons rfl (fun K hK => ?_) AllReadyH.nil
        rw [if_pos (by rfl)]
        simp only [List.getElem_toArray, List.getElem_cons_zero, List.getElem_cons_succ]
        go_simp
        refine hK.out _ _ hS (fun hS => ?_)
        refine wpAnyH_done (by kernel_rfl) ?_ _
        clear hS
        clear c12
        clear c19
        have q0_ := hk1.cell 0 rfl
        go_wp2_with fail
        refine (trim_v (nx.below hB)).mono ?_; rintro e_ w5 ⟨v25, rfl, hn, hb⟩
        clear q0_
        have c25 := hn.fp
        replace hB := hB.trans (hb.mono hB.size)
        replace hk1 := hk1.keep hb
        clear hb hn
        have q0_ := hk1.cell 1 rfl
        go_wp2_with fail
        refine (trim_v (ny.below hB)).mono ?_; rintro e_ w6 ⟨v28, rfl, hn, hb⟩
        clear q0_
        have c28 := hn.fp
        replace hB := hB.trans (hb.mono hB.size)
        replace hk1 := hk1.keep hb
        replace c25 := c25.below hb
        clear hb hn
        go_wp2_with fail
        refine (rmul_f c25.num c25.num ).mono ?_; rintro e_ w7 ⟨v31, rfl, hn, hb⟩
        have c31 := hn.fp
        replace hB := hB.trans (hb.mono hB.size)
        replace hk1 := hk1.keep hb
        replace c25 := c25.below hb
        replace c28 := c28.below hb
        clear hb hn
        go_wp2_with fail
        refine (rmul_f c28.num c28.num ).mono ?_; rintro e_ w8 ⟨v34, rfl, hn, hb⟩
        have c34 := hn.fp
        replace hB := hB.trans (hb.mono hB.size)
        replace hk1 := hk1.keep hb
        replace c25 := c25.below hb
        replace c28 := c28.below hb
        replace c31 := c31.below hb
        clear hb hn
        go_wp2_with fail
        refine (rsub_f c34.num c31.num ).mono ?_; rintro e_ w9 ⟨v37, rfl, hn, hb⟩
        have c37 := hn.fp
        replace hB := hB.trans (hb.mono hB.size)
        replace hk1 := hk1.keep hb
        replace c25 := c25.below hb
        replace c28 := c28.below hb
        replace c31 := c31.below hb
        replace c34 := c34.below hb
        clear hb hn
        go_wp2_with (refine wpList_lit rfl 27 36 _ rfl Tryd.underlying27 info32e 1 rfl ?_)
        intro w10 hl hb
        have c38 := (NatRes.lit (c := 1) hl (Nat.zero_le _) (by omega) (by omega)).can (k := 1) (by exact ⟨by decide +kernel⟩) (by omega)
        replace c38 : CanAt w10 _ (1 : Fp).val := c38
        obtain ⟨v38, hv38⟩ : ∃ v, v = Value.slice (some ⟨w9.heap.size, 0, none⟩) 1 1 := ⟨_, rfl⟩
        rw [← hv38] at c38 ⊢
        clear hv38 hl
        replace hB := hB.trans (hb.mono hB.size)
        replace hk1 := hk1.keep hb
        replace c25 := c25.below hb
        replace c28 := c28.below hb
        replace c31 := c31.below hb
        replace c34 := c34.below hb
        replace c37 := c37.below hb
        clear hb
        go_wp2_with fail
        refine (rcurve_c w10).mono ?_; rintro e_ w11 ⟨v39, rfl, c39, hb⟩
        replace hB := hB.trans (hb.mono hB.size)
        replace hk1 := hk1.keep hb
        replace c25 := c25.below hb
        replace c28 := c28.below hb
        replace c31 := c31.below hb
        replace c34 := c34.below hb
        replace c37 := c37.below hb
        replace c38 := c38.below hb
        clear hb
        go_wp2_with fail
        refine (rmul_f c31.num c34.num ).mono ?_; rintro e_ w12 ⟨v42, rfl, hn, hb⟩
        have c42 := hn.fp
        replace hB := hB.trans (hb.mono hB.size)
        replace hk1 := hk1.keep hb
        replace c25 := c25.below hb
        replace c28 := c28.below hb
        replace c31 := c31.below hb
        replace c34 := c34.below hb
        replace c37 := c37.below hb
        replace c38 := c38.below hb
        replace c39 := c39.below hb
        clear hb hn
        go_wp2_with fail
        refine (rmul_f c39.num c42.num ).mono ?_; rintro e_ w13 ⟨v43, rfl, hn, hb⟩
        have c43 := hn.fp
        replace hB := hB.trans (hb.mono hB.size)
        replace hk1 := hk1.keep hb
        replace c25 := c25.below hb
        replace c28 := c28.below hb
        replace c31 := c31.below hb
        replace c34 := c34.below hb
        replace c37 := c37.below hb
        replace c38 := c38.below hb
        replace c39 := c39.below hb
        replace c42 := c42.below hb
        clear hb hn
        go_wp2_with fail
        refine (radd_f c38.num c43.num ).mono ?_; rintro e_ w14 ⟨v44, rfl, hn, hb⟩
        have c44 := hn.fp
        replace hB := hB.trans (hb.mono hB.size)
        replace hk1 := hk1.keep hb
        replace c25 := c25.below hb
        replace c28 := c28.below hb
        replace c31 := c31.below hb
        replace c34 := c34.below hb
        replace c37 := c37.below hb
        replace c38 := c38.below hb
        replace c39 := c39.below hb
        replace c42 := c42.below hb
        replace c43 := c43.below hb
        clear hb hn
        go_wp2_with fail
        by_cases hon : y * y - x * x = 1 + eD * (x * x * (y * y))
        · have HE := Lib.hid (onB_is hon)
          have h_ := cmp7_v c37.num c44.num
          rw [cmpI_eq (congrArg Fin.val hon)] at h_
          clear hon
          refine h_.mono ?_; rintro e_ wz ⟨rfl, rfl⟩
          clear h_
          go_wp2_with fail
          go_ret
          exact ⟨by rw [HE.out]; first | done | rfl, hB⟩
        · have HE := Lib.hid (onB_no hon)
          obtain ⟨ck, hck⟩ : ∃ c, c = cmpI (y * y - x * x).val (1 + eD * (x * x * (y * y))).val := ⟨_, rfl⟩
          have hne : (ck == 0) = false := by rw [hck]; simpa using cmpI_ne_ (fun h => hon (fp_ext h))
          have h_ := cmp7_v c37.num c44.num
          rw [← hck] at h_
          clear hon hck
          refine h_.mono ?_; rintro e_ wz ⟨rfl, rfl⟩
          clear h_
          go_wp2_with fail
          go_ret
          exact ⟨by rw [HE.out]; first | done | rfl, hB⟩
      · have HE := Lib.hid (onB_y (X := X) (inf := false) hy)
        have HX := Lib.hid (cmpI_lt hx)
        obtain ⟨cj, hcj⟩ : ∃ c, c = cmpI Y eP := ⟨_, rfl⟩
        have hdc : decide ((0 : Int) ≤ cj) = true := decide_eq_true (by rw [hcj]; exact cmpI_ge_ hy)
        have HCJ := Lib.hid hcj
        clear hx hy hcj
        go_enter Tryd.func71, Tryd.ntmps71
        have hB := Below.refl w.heap.size w
        go_wp2_with (refine wpList_box_agg rfl 29 _ rfl [vx, vy, .bool false] rfl ?_)
        intro w1 hk1 hb
        have hz_ := hB.size
        replace hB := hB.trans (hb.mono hB.size)
        clear hb
        obtain ⟨g1, hg_⟩ : ∃ g, g = w.heap.size := ⟨_, rfl⟩
        rw [← hg_] at hk1 ⊢
        have HG1 : Hid (w.heap.size ≤ g1) := Lib.hid (by rw [hg_]; exact hz_)
        clear hg_ hz_
        go_wp2_with fail
        refine wp_region_held_drew (S := fun W_ => Rw W_ g1 29 [vx, vy, .bool false]) (by kernel_rfl) (hk1) (fun hS => ?_)
        have hb := below_drewN (Below.refl w1.heap.size w1) 1
        obtain ⟨w2, hw_⟩ : ∃ x, x = World.drew w1 := ⟨_, rfl⟩
        rw [show World.drewN w1 1 = w2 from hw_.symm] at hb
        rw [← hw_] at hS ⊢
        clear hw_
        replace hB := hB.trans (hb.mono hB.size)
        replace hk1 := hk1.keep hb
        clear hb
        refine wpAnyH_take (i := 0) (v := ?_) rfl (by kernel_rfl) (by kernel_rfl) (by kernel_rfl) (fun _ _ _ h => h) (Or.inl ⟨by rfl, ?_⟩) hS ?_
        rotate_left
        · intro w _; go_simp; try with_reducible rfl
        simp only [List.getElem_toArray, List.getElem_cons_zero, List.getElem_cons_succ, Act.put, List.setIfInBounds_toArray, List.set_cons_zero, List.set_cons_succ]
        refine wpAnyH_take (i := 1) (v := ?_) rfl (by kernel_rfl) (by kernel_rfl) (by kernel_rfl) (fun _ _ _ h => h) (Or.inl ⟨by rfl, ?_⟩) hS ?_
        rotate_left
        · intro W_ hW_; have c_ := Rw.cell hW_ 2 rfl; go_simp; try with_reducible rfl
        simp only [List.getElem_toArray, List.getElem_cons_zero, List.getElem_cons_succ, Act.put, List.setIfInBounds_toArray, List.set_cons_zero, List.set_cons_succ]
        refine wpAnyH_ready (rs := [2]) (by kernel_rfl) (by simp) ?_
        refine AllReadyH.cons rfl (fun K hK => ?_) AllReadyH.nil
        rw [if_pos (by rfl)]
        simp only [List.getElem_toArray, List.getElem_cons_zero, List.getElem_cons_succ]
        go_simp
        refine hK.out _ _ hS (fun hS => ?_)
        refine wpAnyH_take (i := 3) (v := ?_) rfl (by kernel_rfl) (by kernel_rfl) (by kernel_rfl) (fun _ _ _ h => h) (Or.inl ⟨by rfl, ?_⟩) hS ?_
        rotate_left
        · intro w _; go_simp; try with_reducible rfl
        simp only [List.getElem_toArray, List.getElem_cons_zero, List.getElem_cons_succ, Act.put, List.setIfInBounds_toArray, List.set_cons_zero, List.set_cons_succ]
        refine wpAnyH_take (i := 4) (v := ?_) rfl (by kernel_rfl) (by kernel_rfl) (by kernel_rfl) (fun _ _ _ h => h) (Or.inl ⟨by rfl, ?_⟩) hS ?_
        rotate_left
        · intro W_ hW_; have c_ := Rw.cell hW_ 0 rfl; go_simp; try with_reducible rfl
        simp only [List.getElem_toArray, List.getElem_cons_zero, List.getElem_cons_succ, Act.put, List.setIfInBounds_toArray, List.set_cons_zero, List.set_cons_succ]
        refine wpAnyH_ready (rs := [5]) (by kernel_rfl) (by simp) ?_
        refine AllReadyH.cons rfl (fun K hK => ?_) AllReadyH.nil
        rw [if_pos (by rfl)]
        simp only [List.getElem_toArray, List.getElem_cons_zero, List.getElem_cons_succ]
        go_simp
        refine (rP_c w2).mono ?_; rintro e_ w3 ⟨v12, rfl, c12, hb⟩
        dsimp only
        replace hB := hB.trans (hb.mono hB.size)
        replace hk1 := hk1.keep hb
        clear hb
        refine hK.out _ _ hk1 (fun hS => ?_)
        have h_ := cmp7_v (nx.below hB) c12.num
        rw [HX.out] at h_
        refine wpAnyH_ready (rs := [6]) (by kernel_rfl) (by simp) ?_
        refine AllReadyH.cons rfl (fun K hK => ?_) AllReadyH.nil
        rw [if_pos (by rfl)]
        simp only [List.getElem_toArray, List.getElem_cons_zero, List.getElem_cons_succ]
        go_simp
        refine (h_).mono ?_; rintro e_ w4 ⟨rfl, rfl⟩
        dsimp only
        refine hK.out _ _ hS (fun hS => ?_)
        refine wpAnyH_ready (rs := [7]) (by kernel_rfl) (by simp) ?_
        refine AllReadyH.cons rfl (fun K hK => ?_) AllReadyH.nil
        rw [if_pos (by rfl)]
        simp only [List.getElem_toArray, List.getElem_cons_zero, List.getElem_cons_succ]
        go_simp
        refine hK.out _ _ hS (fun hS => ?_)
        refine wpAnyH_ready (rs := [8]) (by kernel_rfl) (by simp) ?_
        refine AllReadyH.cons rfl (fun K hK => ?_) AllReadyH.nil
        rw [if_pos (by rfl)]
        simp only [List.getElem_toArray, List.getElem_cons_zero, List.getElem_cons_succ]
        go_simp
        refine hK.out _ _ hS (fun hS => ?_)
        refine wpAnyH_ready (rs := [9]) (by kernel_rfl) (by simp) ?_
        refine AllReadyH.cons rfl (fun K hK => ?_) AllReadyH.nil
        rw [if_pos (by rfl)]
        simp only [List.getElem_toArray, List.getElem_cons_zero, List.getElem_cons_succ]
        go_simp
        refine hK.out _ _ hS (fun hS => ?_)
        refine wpAnyH_take (i := 10) (v := ?_) rfl (by kernel_rfl) (by kernel_rfl) (by kernel_rfl) (fun _ _ _ h => h) (Or.inl ⟨by rfl, ?_⟩) hS ?_
        rotate_left
        · intro w _; go_simp; try with_reducible rfl
        simp only [List.getElem_toArray, List.getElem_cons_zero, List.getElem_cons_succ, Act.put, List.setIfInBounds_toArray, List.set_cons_zero, List.set_cons_succ]
        refine wpAnyH_take (i := 11) (v := ?_) rfl (by kernel_rfl) (by kernel_rfl) (by kernel_rfl) (fun _ _ _ h => h) (Or.inl ⟨by rfl, ?_⟩) hS ?_
        rotate_left
        · intro W_ hW_; have c_ := Rw.cell hW_ 1 rfl; go_simp; try with_reducible rfl
        simp only [List.getElem_toArray, List.getElem_cons_zero, List.getElem_cons_succ, Act.put, List.setIfInBounds_toArray, List.set_cons_zero, List.set_cons_succ]
        refine wpAnyH_ready (rs := [12]) (by kernel_rfl) (by simp) ?_
        refine AllReadyH.cons rfl (fun K hK => ?_) AllReadyH.nil
        rw [if_pos (by rfl)]
        simp only [List.getElem_toArray, List.getElem_cons_zero, List.getElem_cons_succ]
        go_simp
        refine (rP_c w3).mono ?_; rintro e_ w4 ⟨v19, rfl, c19, hb⟩
        dsimp only
        replace hB := hB.trans (hb.mono hB.size)
        replace hk1 := hk1.keep hb
        replace c12 := c12.below hb
        clear hb
        refine hK.out _ _ hk1 (fun hS => ?_)
        have h_ := cmp7_v (ny.below hB) c19.num
        rw [← HCJ.out] at h_
        refine wpAnyH_ready (rs := [13]) (by kernel_rfl) (by simp) ?_
        refine AllReadyH.cons rfl (fun K hK => ?_) AllReadyH.nil
        rw [if_pos (by rfl)]
        simp only [List.getElem_toArray, List.getElem_cons_zero, List.getElem_cons_succ]
        go_simp
        refine (h_).mono ?_; rintro e_ w5 ⟨rfl, rfl⟩
        dsimp only
        refine hK.out _ _ hS (fun hS => ?_)
        refine wpAnyH_ready (rs := [14]) (by kernel_rfl) (by simp) ?_
        refine AllReadyH.cons rfl (fun K hK => ?_) AllReadyH.nil
        rw [if_pos (by rfl)]
        simp only [List.getElem_toArray, List.getElem_cons_zero, List.getElem_cons_succ]
        go_simp
        refine hK.out _ _ hS (fun hS => ?_)
        refine wpAnyH_ready (rs := [15]) (by kernel_rfl) (by simp) ?_
        refine AllReadyH.cons rfl (fun K hK => ?_) AllReadyH.nil
        rw [if_pos (by rfl)]
        simp only [List.getElem_toArray, List.getElem_cons_zero, List.getElem_cons_succ]
        go_simp
        refine hK.out _ _ hS (fun hS => ?_)
        refine wpAnyH_done (by kernel_rfl) ?_ _
        clear hS
        go_wp2_with fail
        go_ret
        exact ⟨by rw [HE.out]; first | done | rfl, hB⟩
    · have HE := Lib.hid (onB_x (Y := Y) (inf := false) hx)
      obtain ⟨cj, hcj⟩ : ∃ c, c = cmpI X eP := ⟨_, rfl⟩
      have hdc : decide ((0 : Int) ≤ cj) = true := decide_eq_true (by rw [hcj]; exact cmpI_ge_ hx)
      have HCJ := Lib.hid hcj
      clear hx hcj
      go_enter Tryd.func71, Tryd.ntmps71
      have hB := Below.refl w.heap.size w
      go_wp2_with (refine wpList_box_agg rfl 29 _ rfl [vx, vy, .bool false] rfl ?_)
      intro w1 hk1 hb
      have hz_ := hB.size
      replace hB := hB.trans (hb.mono hB.size)
      clear hb
      obtain ⟨g1, hg_⟩ : ∃ g, g = w.heap.size := ⟨_, rfl⟩
      rw [← hg_] at hk1 ⊢
      have HG1 : Hid (w.heap.size ≤ g1) := Lib.hid (by rw [hg_]; exact hz_)
      clear hg_ hz_
      go_wp2_with fail
      refine wp_region_held_drew (S := fun W_ => Rw W_ g1 29 [vx, vy, .bool false]) (by kernel_rfl) (hk1) (fun hS => ?_)
      have hb := below_drewN (Below.refl w1.heap.size w1) 1
      obtain ⟨w2, hw_⟩ : ∃ x, x = World.drew w1 := ⟨_, rfl⟩
      rw [show World.drewN w1 1 = w2 from hw_.symm] at hb
      rw [← hw_] at hS ⊢
      clear hw_
      replace hB := hB.trans (hb.mono hB.size)
      replace hk1 := hk1.keep hb
      clear hb
      refine wpAnyH_take (i := 0) (v := ?_) rfl (by kernel_rfl) (by kernel_rfl) (by kernel_rfl) (fun _ _ _ h => h) (Or.inl ⟨by rfl, ?_⟩) hS ?_
      rotate_left
      · intro w _; go_simp; try with_reducible rfl
      simp only [List.getElem_toArray, List.getElem_cons_zero, List.getElem_cons_succ, Act.put, List.setIfInBounds_toArray, List.set_cons_zero, List.set_cons_succ]
      refine wpAnyH_take (i := 1) (v := ?_) rfl (by kernel_rfl) (by kernel_rfl) (by kernel_rfl) (fun _ _ _ h => h) (Or.inl ⟨by rfl, ?_⟩) hS ?_
      rotate_left
      · intro W_ hW_; have c_ := Rw.cell hW_ 2 rfl; go_simp; try with_reducible rfl
      simp only [List.getElem_toArray, List.getElem_cons_zero, List.getElem_cons_succ, Act.put, List.setIfInBounds_toArray, List.set_cons_zero, List.set_cons_succ]
      refine wpAnyH_ready (rs := [2]) (by kernel_rfl) (by simp) ?_
      refine AllReadyH.cons rfl (fun K hK => ?_) AllReadyH.nil
      rw [if_pos (by rfl)]
      simp only [List.getElem_toArray, List.getElem_cons_zero, List.getElem_cons_succ]
      go_simp
      refine hK.out _ _ hS (fun hS => ?_)
      refine wpAnyH_take (i := 3) (v := ?_) rfl (by kernel_rfl) (by kernel_rfl) (by kernel_rfl) (fun _ _ _ h => h) (Or.inl ⟨by rfl, ?_⟩) hS ?_
      rotate_left
      · intro w _; go_simp; try with_reducible rfl
      simp only [List.getElem_toArray, List.getElem_cons_zero, List.getElem_cons_succ, Act.put, List.setIfInBounds_toArray, List.set_cons_zero, List.set_cons_succ]
      refine wpAnyH_take (i := 4) (v := ?_) rfl (by kernel_rfl) (by kernel_rfl) (by kernel_rfl) (fun _ _ _ h => h) (Or.inl ⟨by rfl, ?_⟩) hS ?_
      rotate_left
      · intro W_ hW_; have c_ := Rw.cell hW_ 0 rfl; go_simp; try with_reducible rfl
      simp only [List.getElem_toArray, List.getElem_cons_zero, List.getElem_cons_succ, Act.put, List.setIfInBounds_toArray, List.set_cons_zero, List.set_cons_succ]
      refine wpAnyH_ready (rs := [5]) (by kernel_rfl) (by simp) ?_
      refine AllReadyH.cons rfl (fun K hK => ?_) AllReadyH.nil
      rw [if_pos (by rfl)]
      simp only [List.getElem_toArray, List.getElem_cons_zero, List.getElem_cons_succ]
      go_simp
      refine (rP_c w2).mono ?_; rintro e_ w3 ⟨v12, rfl, c12, hb⟩
      dsimp only
      replace hB := hB.trans (hb.mono hB.size)
      replace hk1 := hk1.keep hb
      clear hb
      refine hK.out _ _ hk1 (fun hS => ?_)
      have h_ := cmp7_v (nx.below hB) c12.num
      rw [← HCJ.out] at h_
      refine wpAnyH_ready (rs := [6]) (by kernel_rfl) (by simp) ?_
      refine AllReadyH.cons rfl (fun K hK => ?_) AllReadyH.nil
      rw [if_pos (by rfl)]
      simp only [List.getElem_toArray, List.getElem_cons_zero, List.getElem_cons_succ]
      go_simp
      refine (h_).mono ?_; rintro e_ w4 ⟨rfl, rfl⟩
      dsimp only
      refine hK.out _ _ hS (fun hS => ?_)
      refine wpAnyH_ready (rs := [7]) (by kernel_rfl) (by simp) ?_
      refine AllReadyH.cons rfl (fun K hK => ?_) AllReadyH.nil
      rw [if_pos (by rfl)]
      simp only [List.getElem_toArray, List.getElem_cons_zero, List.getElem_cons_succ]
      go_simp
      refine hK.out _ _ hS (fun hS => ?_)
      refine wpAnyH_ready (rs := [8]) (by kernel_rfl) (by simp) ?_
      refine AllReadyH.cons rfl (fun K hK => ?_) AllReadyH.nil
      rw [if_pos (by rfl)]
      simp only [List.getElem_toArray, List.getElem_cons_zero, List.getElem_cons_succ]
      go_simp
      refine hK.out _ _ hS (fun hS => ?_)
      refine wpAnyH_ready (rs := [9]) (by kernel_rfl) (by simp) ?_
      refine AllReadyH.cons rfl (fun K hK => ?_) AllReadyH.nil
      rw [if_pos (by rfl)]
      simp only [List.getElem_toArray, List.getElem_cons_zero, List.getElem_cons_succ]
      go_simp
      refine hK.out _ _ hS (fun hS => ?_)
      refine wpAnyH_take (i := 10) (v := undef) rfl (by kernel_rfl) (by kernel_rfl) (by kernel_rfl) (fun _ _ _ h => h) (Or.inr ⟨by rfl, rfl⟩) hS ?_
      simp only [List.getElem_toArray, List.getElem_cons_zero, List.getElem_cons_succ, Act.put, List.setIfInBounds_toArray, List.set_cons_zero, List.set_cons_succ]
      refine wpAnyH_take (i := 11) (v := undef) rfl (by kernel_rfl) (by kernel_rfl) (by kernel_rfl) (fun _ _ _ h => h) (Or.inr ⟨by rfl, rfl⟩) hS ?_
      simp only [List.getElem_toArray, List.getElem_cons_zero, List.getElem_cons_succ, Act.put, List.setIfInBounds_toArray, List.set_cons_zero, List.set_cons_succ]
      refine wpAnyH_take (i := 12) (v := undef) rfl (by kernel_rfl) (by kernel_rfl) (by kernel_rfl) (fun _ _ _ h => h) (Or.inr ⟨by rfl, rfl⟩) hS ?_
      simp only [List.getElem_toArray, List.getElem_cons_zero, List.getElem_cons_succ, Act.put, List.setIfInBounds_toArray, List.set_cons_zero, List.set_cons_succ]
      refine wpAnyH_take (i := 13) (v := undef) rfl (by kernel_rfl) (by kernel_rfl) (by kernel_rfl) (fun _ _ _ h => h) (Or.inr ⟨by rfl, rfl⟩) hS ?_
      simp only [List.getElem_toArray, List.getElem_cons_zero, List.getElem_cons_succ, Act.put, List.setIfInBounds_toArray, List.set_cons_zero, List.set_cons_succ]
      refine wpAnyH_take (i := 14) (v := undef) rfl (by kernel_rfl) (by kernel_rfl) (by kernel_rfl) (fun _ _ _ h => h) (Or.inr ⟨by rfl, rfl⟩) hS ?_
      simp only [List.getElem_toArray, List.getElem_cons_zero, List.getElem_cons_succ, Act.put, List.setIfInBounds_toArray, List.set_cons_zero, List.set_cons_succ]
      refine wpAnyH_ready (rs := [15]) (by kernel_rfl) (by simp) ?_
      refine AllReadyH.cons rfl (fun K hK => ?_) AllReadyH.nil
      rw [if_pos (by rfl)]
      simp only [List.getElem_toArray, List.getElem_cons_zero, List.getElem_cons_succ]
      go_simp
      refine hK.out _ _ hS (fun hS => ?_)
      refine wpAnyH_done (by kernel_rfl) ?_ _
      clear hS
      go_wp2_with fail
      go_ret
      exact ⟨by rw [HE.out]; first | done | rfl, hB⟩
set_option maxHeartbeats 4000000 in
set_option maxRecDepth 20000 in
theorem radd_ok {va vb : Value} {P Q : Pt} {w : World} (ha : PtIn w va P.1.val P.2.val false) (hb_ : PtIn w vb Q.1.val Q.2.val false) (oP : OnC P) (oQ : OnC Q) :
    Calls Tryd.prog 32 #[va, vb] w (PtOk (eAdd P Q) w) := by
  have HI := Lib.hid (Sp.plus_is (Sp.of_is P) (Sp.of_is Q) oP oQ)
  have O1 := Lib.hid (onB_of oP)
  have O2 := Lib.hid (onB_of oQ)
  clear oP oQ
  obtain ⟨vax, vay, rfl, nax, nay⟩ := ha
  obtain ⟨vbx, vby, rfl, nbx, nby⟩ := hb_
  go_enter Tryd.func32, Tryd.ntmps32
  have hB := Below.refl w.heap.size w
  go_wp2_with (refine wpList_box_agg rfl 29 _ rfl [vax, vay, .bool false] rfl ?_)
  intro w1 hk2 hb
  have hz_ := hB.size
  replace hB := hB.trans (hb.mono hB.size)
  clear hb
  obtain ⟨g2, hg_⟩ : ∃ g, g = w.heap.size := ⟨_, rfl⟩
  rw [← hg_] at hk2 ⊢
  have HG2 : Hid (w.heap.size ≤ g2) := Lib.hid (by rw [hg_]; exact hz_)
  clear hg_ hz_
  go_wp2_with (refine wpList_box_agg rfl 29 _ rfl [vbx, vby, .bool false] rfl ?_)
  intro w2 hk3 hb
  have hz_ := hB.size
  have lt2_ := hk2.lt
  replace hB := hB.trans (hb.mono hB.size)
  replace hk2 := hk2.keep hb
  clear hb
  obtain ⟨g3, hg_⟩ : ∃ g, g = w1.heap.size := ⟨_, rfl⟩
  rw [← hg_] at hk3 ⊢
  have HG3 : Hid (w.heap.size ≤ g3) := Lib.hid (by rw [hg_]; exact hz_)
  have NE2_3 : Hid (g2 ≠ g3) := Lib.hid (by rw [hg_]; exact Nat.ne_of_lt lt2_)
  clear hg_ hz_ lt2_
  go_wp2_with (refine wpList_alloc_agg rfl 29 rfl [(.slice none 0 0), (.slice none 0 0), (.bool false)] 3 (by kernel_rfl) ?_)
  intro w3 hk4 hb
  have hz_ := hB.size
  have lt2_ := hk2.lt
  have lt3_ := hk3.lt
  replace hB := hB.trans (hb.mono hB.size)
  replace hk2 := hk2.keep hb
  replace hk3 := hk3.keep hb
  clear hb
  obtain ⟨g4, hg_⟩ : ∃ g, g = w2.heap.size := ⟨_, rfl⟩
  rw [← hg_] at hk4 ⊢
  have HG4 : Hid (w.heap.size ≤ g4) := Lib.hid (by rw [hg_]; exact hz_)
  have NE2_4 : Hid (g2 ≠ g4) := Lib.hid (by rw [hg_]; exact Nat.ne_of_lt lt2_)
  have NE3_4 : Hid (g3 ≠ g4) := Lib.hid (by rw [hg_]; exact Nat.ne_of_lt lt3_)
  clear hg_ hz_ lt2_ lt3_
  have h_ := rOn_c (inf := false) ⟨_, _, rfl, nax.below hB, nay.below hB⟩
  rw [O1.out] at h_
  go_wp2_with (refine wpList_load_agg rfl 29 _ rfl g2 rfl _ [vax, vay, .bool false] _ hk2 Tryd.underlying29 rfl size_pt ?_)
  refine (h_).mono ?_; rintro e_ w4 ⟨rfl, hb⟩
  replace hB := hB.trans (hb.mono hB.size)
  replace hk2 := hk2.keep hb
  replace hk3 := hk3.keep hb
  replace hk4 := hk4.keep hb
  clear hb h_
  have h_ := rOn_c (inf := false) ⟨_, _, rfl, nbx.below hB, nby.below hB⟩
  rw [O2.out] at h_
  go_wp2_with (refine wpList_load_agg rfl 29 _ rfl g3 rfl _ [vbx, vby, .bool false] _ hk3 Tryd.underlying29 rfl size_pt ?_)
  refine (h_).mono ?_; rintro e_ w5 ⟨rfl, hb⟩
  replace hB := hB.trans (hb.mono hB.size)
  replace hk2 := hk2.keep hb
  replace hk3 := hk3.keep hb
  replace hk4 := hk4.keep hb
  clear hb h_
  go_wp2_with fail
  refine wp_region_held_drew (S := fun W_ => Rw W_ g2 29 [vax, vay, .bool false] ∧ Rw W_ g3 29 [vbx, vby, .bool false]) (by kernel_rfl) (⟨hk2, hk3⟩) (fun hS => ?_)
  have hb := below_drewN (Below.refl w5.heap.size w5) 1
  obtain ⟨w6, hw_⟩ : ∃ x, x = World.drew w5 := ⟨_, rfl⟩
  rw [show World.drewN w5 1 = w6 from hw_.symm] at hb
  rw [← hw_] at hS ⊢
  clear hw_
  replace hB := hB.trans (hb.mono hB.size)
  replace hk2 := hk2.keep hb
  replace hk3 := hk3.keep hb
  replace hk4 := hk4.keep hb
  clear hb
  refine wpAnyH_take (i := 0) (v := .agg #[vax, vay, .bool false]) rfl (by kernel_rfl) (by kernel_rfl) (by kernel_rfl) (fun _ _ _ h => h) (yieldsIf_load_mid (by rfl) 29 _ rfl g2 0 rfl [vax, vay, .bool false] _ (fun W_ hW_ => Rw.range (hW_.1) 0 _ fun j_ v_ hv_ => by rwa [Nat.zero_add]) Tryd.underlying29 rfl size_pt) hS ?_
  simp only [List.getElem_toArray, List.getElem_cons_zero, List.getElem_cons_succ, Act.put, List.setIfInBounds_toArray, List.set_cons_zero, List.set_cons_succ]
  refine wpAnyH_take (i := 2) (v := .agg #[vbx, vby, .bool false]) rfl (by kernel_rfl) (by kernel_rfl) (by kernel_rfl) (fun _ _ _ h => h) (yieldsIf_load_mid (by rfl) 29 _ rfl g3 0 rfl [vbx, vby, .bool false] _ (fun W_ hW_ => Rw.range (hW_.2) 0 _ fun j_ v_ hv_ => by rwa [Nat.zero_add]) Tryd.underlying29 rfl size_pt) hS ?_
  simp only [List.getElem_toArray, List.getElem_cons_zero, List.getElem_cons_succ, Act.put, List.setIfInBounds_toArray, List.set_cons_zero, List.set_cons_succ]
  refine wpAnyH_ready (rs := [1]) (by kernel_rfl) (by simp) ?_
  refine AllReadyH.cons rfl (fun K hK => ?_) AllReadyH.nil
  rw [if_pos (by rfl)]
  simp only [List.getElem_toArray, List.getElem_cons_zero, List.getElem_cons_succ]
  go_simp
  refine (rspot_c (P := P) ⟨_, _, rfl, nax.below hB, nay.below hB⟩).mono ?_; rintro e_ w7 ⟨v20, rfl, r20, hb⟩
  dsimp only
  replace r20 := r20.mono (Nat.zero_le _)
  replace hB := hB.trans (hb.mono hB.size)
  replace hk2 := hk2.keep hb
  replace hk3 := hk3.keep hb
  replace hk4 := hk4.keep hb
  clear hb
  refine hK.out _ _ ⟨hk2, hk3⟩ (fun hS => ?_)
  refine wpAnyH_ready (rs := [3]) (by kernel_rfl) (by simp) ?_
  refine AllReadyH.cons rfl (fun K hK => ?_) AllReadyH.nil
  rw [if_pos (by rfl)]
  simp only [List.getElem_toArray, List.getElem_cons_zero, List.getElem_cons_succ]
  go_simp
  refine (rspot_c (P := Q) ⟨_, _, rfl, nbx.below hB, nby.below hB⟩).mono ?_; rintro e_ w8 ⟨v22, rfl, r22, hb⟩
  dsimp only
  replace r22 := r22.mono (Nat.zero_le _)
  replace hB := hB.trans (hb.mono hB.size)
  replace hk2 := hk2.keep hb
  replace hk3 := hk3.keep hb
  replace hk4 := hk4.keep hb
  replace r20 := r20.below hb
  clear hb
  refine hK.out _ _ ⟨hk2, hk3⟩ (fun hS => ?_)
  refine wpAnyH_ready (rs := [4]) (by kernel_rfl) (by simp) ?_
  refine AllReadyH.cons rfl (fun K hK => ?_) AllReadyH.nil
  rw [if_pos (by rfl)]
  simp only [List.getElem_toArray, List.getElem_cons_zero, List.getElem_cons_succ]
  go_simp
  refine (rsum_c r20.at_ r22.at_).mono ?_; rintro e_ w9 ⟨v23, rfl, r23, hb⟩
  dsimp only
  replace r23 := r23.mono (Nat.zero_le _)
  replace hB := hB.trans (hb.mono hB.size)
  replace hk2 := hk2.keep hb
  replace hk3 := hk3.keep hb
  replace hk4 := hk4.keep hb
  replace r20 := r20.below hb
  replace r22 := r22.below hb
  clear hb
  refine hK.out _ _ ⟨hk2, hk3⟩ (fun hS => ?_)
  refine wpAnyH_ready (rs := [5]) (by kernel_rfl) (by simp) ?_
  refine AllReadyH.cons rfl (fun K hK => ?_) AllReadyH.nil
  rw [if_pos (by rfl)]
  simp only [List.getElem_toArray, List.getElem_cons_zero, List.getElem_cons_succ]
  go_simp
  refine (rpoint_is r23.at_ HI.out).mono ?_; rintro e_ w10 ⟨v24, rfl, hn, hb⟩
  dsimp only
  obtain ⟨v24x, v24y, rfl, r24x, r24y, ap24⟩ := hn.mono (Nat.succ_le_of_lt hk4.lt)
  replace hB := hB.trans (hb.mono hB.size)
  replace hk2 := hk2.keep hb
  replace hk3 := hk3.keep hb
  replace hk4 := hk4.keep hb
  replace r20 := r20.below hb
  replace r22 := r22.below hb
  replace r23 := r23.below hb
  clear hb hn
  refine hK.out _ _ ⟨hk2, hk3⟩ (fun hS => ?_)
  refine wpAnyH_ready (rs := [6]) (by kernel_rfl) (by simp) ?_
  refine AllReadyH.cons rfl (fun K hK => ?_) AllReadyH.nil
  rw [if_pos (by rfl)]
  simp only [List.getElem_toArray, List.getElem_cons_zero, List.getElem_cons_succ]
  refine wp_store_agg 29 _ _ rfl g4 29 [(.slice none 0 0), (.slice none 0 0), (.bool false)] [v24x, v24y, .bool false] rfl rfl hk4 size_pt (by intro v_ hv_; simp only [List.mem_cons, List.not_mem_nil, or_false] at hv_; rcases hv_ with rfl | rfl | rfl <;> first | rfl | exact r24x.fp.one_cell | exact r24y.fp.one_cell) rfl ?_
  intro w11 hn hg
  replace hB := hB.grown hg hB.size (by intro k_ hk_; cases hk_; exact HG4.out)
  replace hk2 := hk2.grown hg (fun e_ => NE2_4.out (Option.some.inj e_))
  replace hk3 := hk3.grown hg (fun e_ => NE3_4.out (Option.some.inj e_))
  replace hk4 := hn
  clear r20
  clear r22
  clear r23
  replace r24x := r24x.past hg
  replace r24y := r24y.past hg
  clear hn hg
  refine hK.out _ _ ⟨hk2, hk3⟩ (fun hS => ?_)
  refine wpAnyH_ready (rs := [7]) (by kernel_rfl) (by simp) ?_
  refine AllReadyH.cons rfl (fun K hK => ?_) AllReadyH.nil
  rw [if_pos (by rfl)]
  simp only [List.getElem_toArray, List.getElem_cons_zero, List.getElem_cons_succ]
  go_simp
  refine hK.out _ _ hS (fun hS => ?_)
  refine wpAnyH_done (by kernel_rfl) ?_ _
  clear hS
  go_wp2_with fail
  refine bodyPost_ret (results_agg_tmp rfl rfl hk4 Tryd.underlying29 rfl size_pt) rfl ?_
  exact ⟨_, rfl, ⟨_, _, rfl, r24x.mono (Nat.le_succ_of_le HG4.out), r24y.mono (Nat.le_succ_of_le HG4.out), ap24⟩, hB⟩
set_option maxHeartbeats 4000000 in
set_option maxRecDepth 20000 in
theorem radd_no1 {va vb : Value} {X Y X' Y' : Nat} {i i' : Bool} {w : World} (ha : PtIn w va X Y i) (hb_ : PtIn w vb X' Y' i') (o1 : onB X Y i = false) :
    Calls Tryd.prog 32 #[va, vb] w (NoPt 93 w) := by
  have O1 := Lib.hid o1
  clear o1
  obtain ⟨o2, ho2⟩ : ∃ b, onB X' Y' i' = b := ⟨_, rfl⟩
  have O2 := Lib.hid ho2
  clear ho2
  obtain ⟨vax, vay, rfl, nax, nay⟩ := ha
  obtain ⟨vbx, vby, rfl, nbx, nby⟩ := hb_
  go_enter Tryd.func32, Tryd.ntmps32
  have hB := Below.refl w.heap.size w
  go_wp2_with (refine wpList_box_agg rfl 29 _ rfl [vax, vay, .bool i] rfl ?_)
  intro w1 hk2 hb
  have hz_ := hB.size
  replace hB := hB.trans (hb.mono hB.size)
  clear hb
  obtain ⟨g2, hg_⟩ : ∃ g, g = w.heap.size := ⟨_, rfl⟩
  rw [← hg_] at hk2 ⊢
  have HG2 : Hid (w.heap.size ≤ g2) := Lib.hid (by rw [hg_]; exact hz_)
  clear hg_ hz_
  go_wp2_with (refine wpList_box_agg rfl 29 _ rfl [vbx, vby, .bool i'] rfl ?_)
  intro w2 hk3 hb
  have hz_ := hB.size
  have lt2_ := hk2.lt
  replace hB := hB.trans (hb.mono hB.size)
  replace hk2 := hk2.keep hb
  clear hb
  obtain ⟨g3, hg_⟩ : ∃ g, g = w1.heap.size := ⟨_, rfl⟩
  rw [← hg_] at hk3 ⊢
  have HG3 : Hid (w.heap.size ≤ g3) := Lib.hid (by rw [hg_]; exact hz_)
  have NE2_3 : Hid (g2 ≠ g3) := Lib.hid (by rw [hg_]; exact Nat.ne_of_lt lt2_)
  clear hg_ hz_ lt2_
  go_wp2_with (refine wpList_alloc_agg rfl 29 rfl [(.slice none 0 0), (.slice none 0 0), (.bool false)] 3 (by kernel_rfl) ?_)
  intro w3 hk4 hb
  have hz_ := hB.size
  have lt2_ := hk2.lt
  have lt3_ := hk3.lt
  replace hB := hB.trans (hb.mono hB.size)
  replace hk2 := hk2.keep hb
  replace hk3 := hk3.keep hb
  clear hb
  obtain ⟨g4, hg_⟩ : ∃ g, g = w2.heap.size := ⟨_, rfl⟩
  rw [← hg_] at hk4 ⊢
  have HG4 : Hid (w.heap.size ≤ g4) := Lib.hid (by rw [hg_]; exact hz_)
  have NE2_4 : Hid (g2 ≠ g4) := Lib.hid (by rw [hg_]; exact Nat.ne_of_lt lt2_)
  have NE3_4 : Hid (g3 ≠ g4) := Lib.hid (by rw [hg_]; exact Nat.ne_of_lt lt3_)
  clear hg_ hz_ lt2_ lt3_
  have h_ := rOn_c (inf := i) ⟨_, _, rfl, nax.below hB, nay.below hB⟩
  rw [O1.out] at h_
  go_wp2_with (refine wpList_load_agg rfl 29 _ rfl g2 rfl _ [vax, vay, .bool i] _ hk2 Tryd.underlying29 rfl size_pt ?_)
  refine (h_).mono ?_; rintro e_ w4 ⟨rfl, hb⟩
  replace hB := hB.trans (hb.mono hB.size)
  replace hk2 := hk2.keep hb
  replace hk3 := hk3.keep hb
  replace hk4 := hk4.keep hb
  clear hb h_
  have h_ := rOn_c (inf := i') ⟨_, _, rfl, nbx.below hB, nby.below hB⟩
  rw [O2.out] at h_
  go_wp2_with (refine wpList_load_agg rfl 29 _ rfl g3 rfl _ [vbx, vby, .bool i'] _ hk3 Tryd.underlying29 rfl size_pt ?_)
  refine (h_).mono ?_; rintro e_ w5 ⟨rfl, hb⟩
  replace hB := hB.trans (hb.mono hB.size)
  replace hk2 := hk2.keep hb
  replace hk3 := hk3.keep hb
  replace hk4 := hk4.keep hb
  clear hb h_
  go_wp2_with (refine wpList_store_agg rfl 29 _ _ rfl g4 29 [(.slice none 0 0), (.slice none 0 0), (.bool false)] [(.slice none 0 0), (.slice none 0 0), (.bool false)] rfl rfl hk4 size_pt (by intro v_ hv_; simp only [List.mem_cons, List.not_mem_nil, or_false] at hv_; rcases hv_ with rfl | rfl | rfl <;> rfl) rfl ?_)
  intro w6 hn hg
  replace hB := hB.grown hg hB.size (by intro k_ hk_; cases hk_; exact HG4.out)
  replace hk2 := hk2.grown hg (fun e_ => NE2_4.out (Option.some.inj e_))
  replace hk3 := hk3.grown hg (fun e_ => NE3_4.out (Option.some.inj e_))
  replace hk4 := hn
  clear hn hg
  go_wp2_with fail
  refine bodyPost_ret (results_agg_tmp rfl rfl hk4 Tryd.underlying29 rfl size_pt) rfl ?_
  exact ⟨rfl, hB⟩
set_option maxHeartbeats 4000000 in
set_option maxRecDepth 20000 in
theorem radd_no2 {va vb : Value} {X Y X' Y' : Nat} {i i' : Bool} {w : World} (ha : PtIn w va X Y i) (hb_ : PtIn w vb X' Y' i') (o1 : onB X Y i = true) (o2 : onB X' Y' i' = false) :
    Calls Tryd.prog 32 #[va, vb] w (NoPt 93 w) := by
  have O1 := Lib.hid o1
  have O2 := Lib.hid o2
  clear o1 o2
  obtain ⟨vax, vay, rfl, nax, nay⟩ := ha
  obtain ⟨vbx, vby, rfl, nbx, nby⟩ := hb_
  go_enter Tryd.func32, Tryd.ntmps32
  have hB := Below.refl w.heap.size w
  go_wp2_with (refine wpList_box_agg rfl 29 _ rfl [vax, vay, .bool i] rfl ?_)
  intro w1 hk2 hb
  have hz_ := hB.size
  replace hB := hB.trans (hb.mono hB.size)
  clear hb
  obtain ⟨g2, hg_⟩ : ∃ g, g = w.heap.size := ⟨_, rfl⟩
  rw [← hg_] at hk2 ⊢
  have HG2 : Hid (w.heap.size ≤ g2) := Lib.hid (by rw [hg_]; exact hz_)
  clear hg_ hz_
  go_wp2_with (refine wpList_box_agg rfl 29 _ rfl [vbx, vby, .bool i'] rfl ?_)
  intro w2 hk3 hb
  have hz_ := hB.size
  have lt2_ := hk2.lt
  replace hB := hB.trans (hb.mono hB.size)
  replace hk2 := hk2.keep hb
  clear hb
  obtain ⟨g3, hg_⟩ : ∃ g, g = w1.heap.size := ⟨_, rfl⟩
  rw [← hg_] at hk3 ⊢
  have HG3 : Hid (w.heap.size ≤ g3) := Lib.hid (by rw [hg_]; exact hz_)
  have NE2_3 : Hid (g2 ≠ g3) := Lib.hid (by rw [hg_]; exact Nat.ne_of_lt lt2_)
  clear hg_ hz_ lt2_
  go_wp2_with (refine wpList_alloc_agg rfl 29 rfl [(.slice none 0 0), (.slice none 0 0), (.bool false)] 3 (by kernel_rfl) ?_)
  intro w3 hk4 hb
  have hz_ := hB.size
  have lt2_ := hk2.lt
  have lt3_ := hk3.lt
  replace hB := hB.trans (hb.mono hB.size)
  replace hk2 := hk2.keep hb
  replace hk3 := hk3.keep hb
  clear hb
  obtain ⟨g4, hg_⟩ : ∃ g, g = w2.heap.size := ⟨_, rfl⟩
  rw [← hg_] at hk4 ⊢
  have HG4 : Hid (w.heap.size ≤ g4) := Lib.hid (by rw [hg_]; exact hz_)
  have NE2_4 : Hid (g2 ≠ g4) := Lib.hid (by rw [hg_]; exact Nat.ne_of_lt lt2_)
  have NE3_4 : Hid (g3 ≠ g4) := Lib.hid (by rw [hg_]; exact Nat.ne_of_lt lt3_)
  clear hg_ hz_ lt2_ lt3_
  have h_ := rOn_c (inf := i) ⟨_, _, rfl, nax.below hB, nay.below hB⟩
  rw [O1.out] at h_
  go_wp2_with (refine wpList_load_agg rfl 29 _ rfl g2 rfl _ [vax, vay, .bool i] _ hk2 Tryd.underlying29 rfl size_pt ?_)
  refine (h_).mono ?_; rintro e_ w4 ⟨rfl, hb⟩
  replace hB := hB.trans (hb.mono hB.size)
  replace hk2 := hk2.keep hb
  replace hk3 := hk3.keep hb
  replace hk4 := hk4.keep hb
  clear hb h_
  have h_ := rOn_c (inf := i') ⟨_, _, rfl, nbx.below hB, nby.below hB⟩
  rw [O2.out] at h_
  go_wp2_with (refine wpList_load_agg rfl 29 _ rfl g3 rfl _ [vbx, vby, .bool i'] _ hk3 Tryd.underlying29 rfl size_pt ?_)
  refine (h_).mono ?_; rintro e_ w5 ⟨rfl, hb⟩
  replace hB := hB.trans (hb.mono hB.size)
  replace hk2 := hk2.keep hb
  replace hk3 := hk3.keep hb
  replace hk4 := hk4.keep hb
  clear hb h_
  go_wp2_with (refine wpList_store_agg rfl 29 _ _ rfl g4 29 [(.slice none 0 0), (.slice none 0 0), (.bool false)] [(.slice none 0 0), (.slice none 0 0), (.bool false)] rfl rfl hk4 size_pt (by intro v_ hv_; simp only [List.mem_cons, List.not_mem_nil, or_false] at hv_; rcases hv_ with rfl | rfl | rfl <;> rfl) rfl ?_)
  intro w6 hn hg
  replace hB := hB.grown hg hB.size (by intro k_ hk_; cases hk_; exact HG4.out)
  replace hk2 := hk2.grown hg (fun e_ => NE2_4.out (Option.some.inj e_))
  replace hk3 := hk3.grown hg (fun e_ => NE3_4.out (Option.some.inj e_))
  replace hk4 := hn
  clear hn hg
  go_wp2_with fail
  refine bodyPost_ret (results_agg_tmp rfl rfl hk4 Tryd.underlying29 rfl size_pt) rfl ?_
  exact ⟨rfl, hB⟩
set_option maxHeartbeats 4000000 in
set_option maxRecDepth 20000 in
theorem rmul_ok {vk va : Value} {k : Nat} {P : Pt} {w : World} (nk : NumAt w vk k) (ha : PtIn w va P.1.val P.2.val false) (oP : OnC P) (hk : bl k ≤ 1024) :
    Calls Tryd.prog 33 #[vk, va] w (PtOk (eMul k P) w) := by
  have O1 := Lib.hid (onB_of oP)
  have OP := Lib.hid oP
  obtain ⟨nlk, hnl⟩ : ∃ b, b = nl k := ⟨_, rfl⟩
  have hk2 := hk
  rw [← nl_bl, ← hnl] at hk2
  have hdk : decide ((32 : Int) < (nlk : Int)) = false := decide_eq_false (by omega)
  have HNL : Hid (nlk = nl k) := Lib.hid hnl
  clear oP hk hk2 hnl
  obtain ⟨vax, vay, rfl, nax, nay⟩ := ha
  go_enter Tryd.func33, Tryd.ntmps33
  have hB := Below.refl w.heap.size w
  go_wp2_with (refine wpList_box_agg rfl 29 _ rfl [vax, vay, .bool false] rfl ?_)
  intro w1 hk3 hb
  have hz_ := hB.size
  replace hB := hB.trans (hb.mono hB.size)
  clear hb
  obtain ⟨g3, hg_⟩ : ∃ g, g = w.heap.size := ⟨_, rfl⟩
  rw [← hg_] at hk3 ⊢
  have HG3 : Hid (w.heap.size ≤ g3) := Lib.hid (by rw [hg_]; exact hz_)
  clear hg_ hz_
  go_wp2_with (refine wpList_alloc_agg rfl 29 rfl [(.slice none 0 0), (.slice none 0 0), (.bool false)] 3 (by kernel_rfl) ?_)
  intro w2 hk4 hb
  have hz_ := hB.size
  have lt3_ := hk3.lt
  replace hB := hB.trans (hb.mono hB.size)
  replace hk3 := hk3.keep hb
  clear hb
  obtain ⟨g4, hg_⟩ : ∃ g, g = w1.heap.size := ⟨_, rfl⟩
  rw [← hg_] at hk4 ⊢
  have HG4 : Hid (w.heap.size ≤ g4) := Lib.hid (by rw [hg_]; exact hz_)
  have NE3_4 : Hid (g3 ≠ g4) := Lib.hid (by rw [hg_]; exact Nat.ne_of_lt lt3_)
  clear hg_ hz_ lt3_
  have h_ := rOn_c (inf := false) ⟨_, _, rfl, nax.below hB, nay.below hB⟩
  rw [O1.out] at h_
  go_wp2_with (refine wpList_load_agg rfl 29 _ rfl g3 rfl _ [vax, vay, .bool false] _ hk3 Tryd.underlying29 rfl size_pt ?_)
  refine (h_).mono ?_; rintro e_ w3 ⟨rfl, hb⟩
  replace hB := hB.trans (hb.mono hB.size)
  replace hk3 := hk3.keep hb
  replace hk4 := hk4.keep hb
  clear hb h_
  go_wp2_with fail
  refine (trim_v (nk.below hB)).mono ?_; rintro e_ w4 ⟨v13, rfl, hn, hb⟩
  have c13 := hn.can nk.lim (by omega)
  obtain ⟨a13, p13, rfl⟩ := c13.len
  rw [← HNL.out] at c13 ⊢
  replace hB := hB.trans (hb.mono hB.size)
  replace hk3 := hk3.keep hb
  replace hk4 := hk4.keep hb
  clear hb hn
  go_wp2_with (refine wpList_load_agg rfl 29 _ rfl g3 rfl _ [vax, vay, .bool false] _ hk3 Tryd.underlying29 rfl size_pt ?_)
  refine (rspot_c (P := P) ⟨_, _, rfl, nax.below hB, nay.below hB⟩).mono ?_; rintro e_ w5 ⟨v20, rfl, r20, hb⟩
  replace r20 := r20.mono (Nat.zero_le _)
  replace hB := hB.trans (hb.mono hB.size)
  replace hk3 := hk3.keep hb
  replace hk4 := hk4.keep hb
  replace c13 := c13.below hb
  clear hb
  go_wp2_with fail
  refine (rtimes_c r20.at_ (Sp.of_is P) OP.out c13.num).mono ?_; rintro e_ w6 ⟨v21, sp, rfl, r21, his, hb⟩
  have HI := Lib.hid his
  clear his
  replace r21 := r21.mono (Nat.zero_le _)
  replace hB := hB.trans (hb.mono hB.size)
  replace hk3 := hk3.keep hb
  replace hk4 := hk4.keep hb
  replace c13 := c13.below hb
  replace r20 := r20.below hb
  clear hb
  go_wp2_with fail
  refine (rpoint_is r21.at_ HI.out).mono ?_; rintro e_ w7 ⟨v22, rfl, hn, hb⟩
  obtain ⟨v22x, v22y, rfl, r22x, r22y, ap22⟩ := hn.mono (Nat.succ_le_of_lt hk4.lt)
  replace hB := hB.trans (hb.mono hB.size)
  replace hk3 := hk3.keep hb
  replace hk4 := hk4.keep hb
  replace c13 := c13.below hb
  replace r20 := r20.below hb
  replace r21 := r21.below hb
  clear hb hn
  go_wp2_with (refine wpList_store_agg rfl 29 _ _ rfl g4 29 [(.slice none 0 0), (.slice none 0 0), (.bool false)] [v22x, v22y, .bool false] rfl rfl hk4 size_pt (by intro v_ hv_; simp only [List.mem_cons, List.not_mem_nil, or_false] at hv_; rcases hv_ with rfl | rfl | rfl <;> first | rfl | exact r22x.fp.one_cell | exact r22y.fp.one_cell) rfl ?_)
  intro w8 hn hg
  replace hB := hB.grown hg hB.size (by intro k_ hk_; cases hk_; exact HG4.out)
  replace hk3 := hk3.grown hg (fun e_ => NE3_4.out (Option.some.inj e_))
  replace hk4 := hn
  clear c13
  clear r20
  clear r21
  replace r22x := r22x.past hg
  replace r22y := r22y.past hg
  clear hn hg
  go_wp2_with fail
  refine bodyPost_ret (results_agg_tmp rfl rfl hk4 Tryd.underlying29 rfl size_pt) rfl ?_
  exact ⟨_, rfl, ⟨_, _, rfl, r22x.mono (Nat.le_succ_of_le HG4.out), r22y.mono (Nat.le_succ_of_le HG4.out), ap22⟩, hB⟩
set_option maxHeartbeats 4000000 in
set_option maxRecDepth 20000 in
theorem rmul_large {vk va : Value} {k : Nat} {P : Pt} {w : World} (nk : NumAt w vk k) (ha : PtIn w va P.1.val P.2.val false) (oP : OnC P) (hk : ¬ bl k ≤ 1024) :
    Calls Tryd.prog 33 #[vk, va] w (NoPt 10 w) := by
  have O1 := Lib.hid (onB_of oP)
  have OP := Lib.hid oP
  obtain ⟨nlk, hnl⟩ : ∃ b, b = nl k := ⟨_, rfl⟩
  have hk2 := hk
  rw [← nl_bl, ← hnl] at hk2
  have hdk : decide ((32 : Int) < (nlk : Int)) = true := decide_eq_true (by omega)
  have HNL : Hid (nlk = nl k) := Lib.hid hnl
  clear oP hk hk2 hnl
  obtain ⟨vax, vay, rfl, nax, nay⟩ := ha
  go_enter Tryd.func33, Tryd.ntmps33
  have hB := Below.refl w.heap.size w
  go_wp2_with (refine wpList_box_agg rfl 29 _ rfl [vax, vay, .bool false] rfl ?_)
  intro w1 hk3 hb
  have hz_ := hB.size
  replace hB := hB.trans (hb.mono hB.size)
  clear hb
  obtain ⟨g3, hg_⟩ : ∃ g, g = w.heap.size := ⟨_, rfl⟩
  rw [← hg_] at hk3 ⊢
  have HG3 : Hid (w.heap.size ≤ g3) := Lib.hid (by rw [hg_]; exact hz_)
  clear hg_ hz_
  go_wp2_with (refine wpList_alloc_agg rfl 29 rfl [(.slice none 0 0), (.slice none 0 0), (.bool false)] 3 (by kernel_rfl) ?_)
  intro w2 hk4 hb
  have hz_ := hB.size
  have lt3_ := hk3.lt
  replace hB := hB.trans (hb.mono hB.size)
  replace hk3 := hk3.keep hb
  clear hb
  obtain ⟨g4, hg_⟩ : ∃ g, g = w1.heap.size := ⟨_, rfl⟩
  rw [← hg_] at hk4 ⊢
  have HG4 : Hid (w.heap.size ≤ g4) := Lib.hid (by rw [hg_]; exact hz_)
  have NE3_4 : Hid (g3 ≠ g4) := Lib.hid (by rw [hg_]; exact Nat.ne_of_lt lt3_)
  clear hg_ hz_ lt3_
  have h_ := rOn_c (inf := false) ⟨_, _, rfl, nax.below hB, nay.below hB⟩
  rw [O1.out] at h_
  go_wp2_with (refine wpList_load_agg rfl 29 _ rfl g3 rfl _ [vax, vay, .bool false] _ hk3 Tryd.underlying29 rfl size_pt ?_)
  refine (h_).mono ?_; rintro e_ w3 ⟨rfl, hb⟩
  replace hB := hB.trans (hb.mono hB.size)
  replace hk3 := hk3.keep hb
  replace hk4 := hk4.keep hb
  clear hb h_
  go_wp2_with fail
  refine (trim_v (nk.below hB)).mono ?_; rintro e_ w4 ⟨v13, rfl, hn, hb⟩
  have c13 := hn.can nk.lim (by omega)
  obtain ⟨a13, p13, rfl⟩ := c13.len
  rw [← HNL.out] at c13 ⊢
  replace hB := hB.trans (hb.mono hB.size)
  replace hk3 := hk3.keep hb
  replace hk4 := hk4.keep hb
  clear hb hn
  go_wp2_with (refine wpList_store_agg rfl 29 _ _ rfl g4 29 [(.slice none 0 0), (.slice none 0 0), (.bool false)] [(.slice none 0 0), (.slice none 0 0), (.bool false)] rfl rfl hk4 size_pt (by intro v_ hv_; simp only [List.mem_cons, List.not_mem_nil, or_false] at hv_; rcases hv_ with rfl | rfl | rfl <;> rfl) rfl ?_)
  intro w5 hn hg
  replace hB := hB.grown hg hB.size (by intro k_ hk_; cases hk_; exact HG4.out)
  replace hk3 := hk3.grown hg (fun e_ => NE3_4.out (Option.some.inj e_))
  replace hk4 := hn
  clear c13
  clear hn hg
  go_wp2_with fail
  refine bodyPost_ret (results_agg_tmp rfl rfl hk4 Tryd.underlying29 rfl size_pt) rfl ?_
  exact ⟨rfl, hB⟩
set_option maxHeartbeats 4000000 in
set_option maxRecDepth 20000 in
theorem rmul_no {vk va : Value} {k X Y : Nat} {i : Bool} {w : World} (nk : NumAt w vk k) (ha : PtIn w va X Y i) (o1 : onB X Y i = false) :
    Calls Tryd.prog 33 #[vk, va] w (NoPt 93 w) := by
  have O1 := Lib.hid o1
  clear o1
  obtain ⟨vax, vay, rfl, nax, nay⟩ := ha
  go_enter Tryd.func33, Tryd.ntmps33
  have hB := Below.refl w.heap.size w
  go_wp2_with (refine wpList_box_agg rfl 29 _ rfl [vax, vay, .bool i] rfl ?_)
  intro w1 hk3 hb
  have hz_ := hB.size
  replace hB := hB.trans (hb.mono hB.size)
  clear hb
  obtain ⟨g3, hg_⟩ : ∃ g, g = w.heap.size := ⟨_, rfl⟩
  rw [← hg_] at hk3 ⊢
  have HG3 : Hid (w.heap.size ≤ g3) := Lib.hid (by rw [hg_]; exact hz_)
  clear hg_ hz_
  go_wp2_with (refine wpList_alloc_agg rfl 29 rfl [(.slice none 0 0), (.slice none 0 0), (.bool false)] 3 (by kernel_rfl) ?_)
  intro w2 hk4 hb
  have hz_ := hB.size
  have lt3_ := hk3.lt
  replace hB := hB.trans (hb.mono hB.size)
  replace hk3 := hk3.keep hb
  clear hb
  obtain ⟨g4, hg_⟩ : ∃ g, g = w1.heap.size := ⟨_, rfl⟩
  rw [← hg_] at hk4 ⊢
  have HG4 : Hid (w.heap.size ≤ g4) := Lib.hid (by rw [hg_]; exact hz_)
  have NE3_4 : Hid (g3 ≠ g4) := Lib.hid (by rw [hg_]; exact Nat.ne_of_lt lt3_)
  clear hg_ hz_ lt3_
  have h_ := rOn_c (inf := i) ⟨_, _, rfl, nax.below hB, nay.below hB⟩
  rw [O1.out] at h_
  go_wp2_with (refine wpList_load_agg rfl 29 _ rfl g3 rfl _ [vax, vay, .bool i] _ hk3 Tryd.underlying29 rfl size_pt ?_)
  refine (h_).mono ?_; rintro e_ w3 ⟨rfl, hb⟩
  replace hB := hB.trans (hb.mono hB.size)
  replace hk3 := hk3.keep hb
  replace hk4 := hk4.keep hb
  clear hb h_
  go_wp2_with (refine wpList_store_agg rfl 29 _ _ rfl g4 29 [(.slice none 0 0), (.slice none 0 0), (.bool false)] [(.slice none 0 0), (.slice none 0 0), (.bool false)] rfl rfl hk4 size_pt (by intro v_ hv_; simp only [List.mem_cons, List.not_mem_nil, or_false] at hv_; rcases hv_ with rfl | rfl | rfl <;> rfl) rfl ?_)
  intro w4 hn hg
  replace hB := hB.grown hg hB.size (by intro k_ hk_; cases hk_; exact HG4.out)
  replace hk3 := hk3.grown hg (fun e_ => NE3_4.out (Option.some.inj e_))
  replace hk4 := hn
  clear hn hg
  go_wp2_with fail
  refine bodyPost_ret (results_agg_tmp rfl rfl hk4 Tryd.underlying29 rfl size_pt) rfl ?_
  exact ⟨rfl, hB⟩
end Go.Proofs.YtlolkighnnedfaaDoor
/- signetlaw13: twin, still, one; the answers of Add and Mul in one form. (Printed by gen_edlb.py.) -/
set_option linter.unusedVariables false
set_option linter.unusedSimpArgs false
namespace Go.Sg
open Go.RowKit
theorem Blk.keep {w w' : World} {g : Nat} {k : IntKind} {E : TypeId} {xs : List Int} (h : Blk w g k E xs) (hb : Below w.heap.size w w') : Blk w' g k E xs := h.below hb h.lt
end Go.Sg
namespace Go.Proofs.YtlolkighnnedfaaDoor
open Go.RowKit Go.Sg
/-- An answer: two numbers of the call's own. -/
def PtN (B : Nat) (w : World) (v : Value) (X Y : Nat) : Prop := ∃ vx vy, v = .agg #[vx, vy, .bool false] ∧ NatRes B w vx X ∧ NatRes B w vy Y
def AnsPost (r : Int × Nat × Nat) (W : World) (e : Ending) (w' : World) : Prop := ∃ v, e = .returned (.tuple #[v, .int .i64 r.1]) ∧ PtN W.heap.size w' v r.2.1 r.2.2 ∧ Below W.heap.size W w'
def ptA (P : Pt) : Int × Nat × Nat := (0, P.1.val, P.2.val)
def noA (c : Int) : Int × Nat × Nat := (c, 0, 0)
theorem PtOk.ans {Q : Pt} {W : World} {e : Ending} {w' : World} (h : PtOk Q W e w') : AnsPost (ptA Q) W e w' := by
  obtain ⟨v, rfl, ⟨vx, vy, rfl, h1, h2, _⟩, hb⟩ := h
  exact ⟨_, rfl, ⟨_, _, rfl, h1, h2⟩, hb⟩
theorem NoPt.ans {c : Int} {W : World} {e : Ending} {w' : World} (h : NoPt c W e w') : AnsPost (noA c) W e w' := by
  obtain ⟨rfl, hb⟩ := h
  exact ⟨_, rfl, ⟨_, _, rfl, NatRes.nil0 _ _, NatRes.nil0 _ _⟩, hb⟩
def addA (X Y : Nat) (i : Bool) (X' Y' : Nat) (i' : Bool) : Int × Nat × Nat := match ptOf X Y i, ptOf X' Y' i' with
  | some P, some Q => ptA (eAdd P Q)
  | _, _ => noA 93
def mulA (k X Y : Nat) (i : Bool) : Int × Nat × Nat := match ptOf X Y i with
  | some P => if bl k ≤ 1024 then ptA (eMul k P) else noA 10
  | none => noA 93
theorem onB_none {X Y : Nat} {i : Bool} (h : ptOf X Y i = none) : onB X Y i = false := by unfold onB; rw [h]; rfl
theorem onB_some {X Y : Nat} {i : Bool} {P : Pt} (h : ptOf X Y i = some P) : onB X Y i = true := by unfold onB; rw [h]; rfl
section
variable {va vb vk : Value} {X Y X' Y' k : Nat} {i i' : Bool} {w : World}
theorem add_any (ha : PtIn w va X Y i) (hb : PtIn w vb X' Y' i') (tP : TabAt w 0 limbP) (tD : TabAt w 3 limbD) : Calls Tryd.prog 15 #[va, vb] w (AnsPost (addA X Y i X' Y' i') w) := by
  unfold addA
  cases h1 : ptOf X Y i with
  | none => exact (add_no1 ha hb (onB_none h1) tP tD).mono fun e w' h => h.ans
  | some P => cases h2 : ptOf X' Y' i' with
    | none => exact (add_no2 ha hb (onB_some h1) (onB_none h2) tP tD).mono fun e w' h => h.ans
    | some Q =>
      obtain ⟨rfl, rfl, rfl, o1⟩ := ptOf_some h1
      obtain ⟨rfl, rfl, rfl, o2⟩ := ptOf_some h2
      exact (add_ok ha hb o1 o2 tP tD).mono fun e w' h => h.ans
theorem radd_any (ha : PtIn w va X Y i) (hb : PtIn w vb X' Y' i') : Calls Tryd.prog 32 #[va, vb] w (AnsPost (addA X Y i X' Y' i') w) := by
  unfold addA
  cases h1 : ptOf X Y i with
  | none => exact (radd_no1 ha hb (onB_none h1)).mono fun e w' h => h.ans
  | some P => cases h2 : ptOf X' Y' i' with
    | none => exact (radd_no2 ha hb (onB_some h1) (onB_none h2)).mono fun e w' h => h.ans
    | some Q =>
      obtain ⟨rfl, rfl, rfl, o1⟩ := ptOf_some h1
      obtain ⟨rfl, rfl, rfl, o2⟩ := ptOf_some h2
      exact (radd_ok ha hb o1 o2).mono fun e w' h => h.ans
theorem mul_any (nk : NumAt w vk k) (ha : PtIn w va X Y i) (tP : TabAt w 0 limbP) (tD : TabAt w 3 limbD) : Calls Tryd.prog 16 #[vk, va] w (AnsPost (mulA k X Y i) w) := by
  unfold mulA
  cases h1 : ptOf X Y i with
  | none => exact (mul_no nk ha (onB_none h1) tP tD).mono fun e w' h => h.ans
  | some P =>
    obtain ⟨rfl, rfl, rfl, o1⟩ := ptOf_some h1
    by_cases hk : bl k ≤ 1024
    · simp only [hk, if_true]
      exact (mul_ok nk ha o1 hk tP tD).mono fun e w' h => h.ans
    · simp only [hk, if_false]
      exact (mul_large nk ha o1 hk tP tD).mono fun e w' h => h.ans
theorem rmul_any (nk : NumAt w vk k) (ha : PtIn w va X Y i) : Calls Tryd.prog 33 #[vk, va] w (AnsPost (mulA k X Y i) w) := by
  unfold mulA
  cases h1 : ptOf X Y i with
  | none => exact (rmul_no nk ha (onB_none h1)).mono fun e w' h => h.ans
  | some P =>
    obtain ⟨rfl, rfl, rfl, o1⟩ := ptOf_some h1
    by_cases hk : bl k ≤ 1024
    · simp only [hk, if_true]
      exact (rmul_ok nk ha o1 hk).mono fun e w' h => h.ans
    · simp only [hk, if_false]
      exact (rmul_large nk ha o1 hk).mono fun e w' h => h.ans
end
/-- The numbers of all answers are small. -/
def Small (r : Int × Nat × Nat) : Prop := Lim 8 r.2.1 ∧ Lim 8 r.2.2
theorem small_pt (P : Pt) : Small (ptA P) := ⟨lim_fp _, lim_fp _⟩
theorem small_no (c : Int) : Small (noA c) := ⟨⟨Rpow_pos 8⟩, ⟨Rpow_pos 8⟩⟩
theorem addA_small (X Y : Nat) (i : Bool) (X' Y' : Nat) (i' : Bool) : Small (addA X Y i X' Y' i') := by
  unfold addA
  split
  · exact small_pt _
  · exact small_no _
theorem mulA_small (k X Y : Nat) (i : Bool) : Small (mulA k X Y i) := by
  unfold mulA
  split
  · split
    · exact small_pt _
    · exact small_no _
  · exact small_no _

set_option maxHeartbeats 4000000 in
set_option maxRecDepth 20000 in
theorem one_c {va vb : Value} {X Y X' Y' : Nat} {w : World} (ha : ∃ vx vy, va = .agg #[vx, vy, .bool false] ∧ CanAt w vx X ∧ CanAt w vy Y) (hb_ : ∃ vx vy, vb = .agg #[vx, vy, .bool false] ∧ CanAt w vx X' ∧ CanAt w vy Y') :
    Calls Tryd.prog 22 #[va, vb] w (fun e w' => e = .returned (.bool (decide (X = X' ∧ Y = Y'))) ∧ Below w.heap.size w w') := by
  obtain ⟨vax, vay, rfl, cax, cay⟩ := ha
  obtain ⟨vbx, vby, rfl, cbx, cby⟩ := hb_
  obtain ⟨an, han⟩ : ∃ a, a = decide (X = X' ∧ Y = Y') := ⟨_, rfl⟩
  rw [← han]
  have HAN := Lib.hid han
  clear han
  by_cases hx : X = X'
  · by_cases hy : Y = Y'
    · have HE : Hid (an = true) := Lib.hid (by rw [HAN.out]; exact decide_eq_true ⟨hx, hy⟩)
      have HX := Lib.hid hx
      have HY := Lib.hid hy
      clear hx hy
      go_enter Tryd.func22, Tryd.ntmps22
      have hB := Below.refl w.heap.size w
      go_wp2_with (refine wpList_box_agg rfl 29 _ rfl [vax, vay, .bool false] rfl ?_)
      intro w1 hk2 hb
      have hz_ := hB.size
      replace hB := hB.trans (hb.mono hB.size)
      clear hb
      obtain ⟨g2, hg_⟩ : ∃ g, g = w.heap.size := ⟨_, rfl⟩
      rw [← hg_] at hk2 ⊢
      have HG2 : Hid (w.heap.size ≤ g2) := Lib.hid (by rw [hg_]; exact hz_)
      clear hg_ hz_
      go_wp2_with (refine wpList_box_agg rfl 29 _ rfl [vbx, vby, .bool false] rfl ?_)
      intro w2 hk3 hb
      have hz_ := hB.size
      have lt2_ := hk2.lt
      replace hB := hB.trans (hb.mono hB.size)
      replace hk2 := hk2.keep hb
      clear hb
      obtain ⟨g3, hg_⟩ : ∃ g, g = w1.heap.size := ⟨_, rfl⟩
      rw [← hg_] at hk3 ⊢
      have HG3 : Hid (w.heap.size ≤ g3) := Lib.hid (by rw [hg_]; exact hz_)
      have NE2_3 : Hid (g2 ≠ g3) := Lib.hid (by rw [hg_]; exact Nat.ne_of_lt lt2_)
      clear hg_ hz_ lt2_
      have h_ := sameNat_can (cax.below hB) (cbx.below hB)
      rw [show decide (X = X') = true from decide_eq_true HX.out] at h_
      have q0_ := hk2.cell 2 rfl
      have q1_ := hk3.cell 2 rfl
      have q2_ := hk2.cell 0 rfl
      have q3_ := hk3.cell 0 rfl
      go_wp2_with fail
      refine (h_).mono ?_; rintro e_ w3 ⟨rfl, hd_⟩
      clear q0_ q1_ q2_ q3_
      have hb := hd_.b
      replace hB := hB.trans (hb.mono hB.size)
      replace hk2 := hk2.keep hb
      replace hk3 := hk3.keep hb
      clear hb hd_ h_
      have h_ := sameNat_can (cay.below hB) (cby.below hB)
      rw [show decide (Y = Y') = true from decide_eq_true HY.out] at h_
      have q0_ := hk2.cell 1 rfl
      have q1_ := hk3.cell 1 rfl
      go_wp2_with fail
      refine (h_).mono ?_; rintro e_ w4 ⟨rfl, hd_⟩
      clear q0_ q1_
      have hb := hd_.b
      replace hB := hB.trans (hb.mono hB.size)
      replace hk2 := hk2.keep hb
      replace hk3 := hk3.keep hb
      clear hb hd_ h_
      go_wp2_with fail
      go_ret
      exact ⟨by rw [HE.out]; first | done | rfl, hB⟩
    · have HE : Hid (an = false) := Lib.hid (by rw [HAN.out]; exact decide_eq_false fun h => hy h.2)
      have HX := Lib.hid hx
      have HY := Lib.hid hy
      clear hx hy
      go_enter Tryd.func22, Tryd.ntmps22
      have hB := Below.refl w.heap.size w
      go_wp2_with (refine wpList_box_agg rfl 29 _ rfl [vax, vay, .bool false] rfl ?_)
      intro w1 hk2 hb
      have hz_ := hB.size
      replace hB := hB.trans (hb.mono hB.size)
      clear hb
      obtain ⟨g2, hg_⟩ : ∃ g, g = w.heap.size := ⟨_, rfl⟩
      rw [← hg_] at hk2 ⊢
      have HG2 : Hid (w.heap.size ≤ g2) := Lib.hid (by rw [hg_]; exact hz_)
      clear hg_ hz_
      go_wp2_with (refine wpList_box_agg rfl 29 _ rfl [vbx, vby, .bool false] rfl ?_)
      intro w2 hk3 hb
      have hz_ := hB.size
      have lt2_ := hk2.lt
      replace hB := hB.trans (hb.mono hB.size)
      replace hk2 := hk2.keep hb
      clear hb
      obtain ⟨g3, hg_⟩ : ∃ g, g = w1.heap.size := ⟨_, rfl⟩
      rw [← hg_] at hk3 ⊢
      have HG3 : Hid (w.heap.size ≤ g3) := Lib.hid (by rw [hg_]; exact hz_)
      have NE2_3 : Hid (g2 ≠ g3) := Lib.hid (by rw [hg_]; exact Nat.ne_of_lt lt2_)
      clear hg_ hz_ lt2_
      have h_ := sameNat_can (cax.below hB) (cbx.below hB)
      rw [show decide (X = X') = true from decide_eq_true HX.out] at h_
      have q0_ := hk2.cell 2 rfl
      have q1_ := hk3.cell 2 rfl
      have q2_ := hk2.cell 0 rfl
      have q3_ := hk3.cell 0 rfl
      go_wp2_with fail
      refine (h_).mono ?_; rintro e_ w3 ⟨rfl, hd_⟩
      clear q0_ q1_ q2_ q3_
      have hb := hd_.b
      replace hB := hB.trans (hb.mono hB.size)
      replace hk2 := hk2.keep hb
      replace hk3 := hk3.keep hb
      clear hb hd_ h_
      have h_ := sameNat_can (cay.below hB) (cby.below hB)
      rw [show decide (Y = Y') = false from decide_eq_false HY.out] at h_
      have q0_ := hk2.cell 1 rfl
      have q1_ := hk3.cell 1 rfl
      go_wp2_with fail
      refine (h_).mono ?_; rintro e_ w4 ⟨rfl, hd_⟩
      clear q0_ q1_
      have hb := hd_.b
      replace hB := hB.trans (hb.mono hB.size)
      replace hk2 := hk2.keep hb
      replace hk3 := hk3.keep hb
      clear hb hd_ h_
      go_wp2_with fail
      go_ret
      exact ⟨by rw [HE.out]; first | done | rfl, hB⟩
  · have HE : Hid (an = false) := Lib.hid (by rw [HAN.out]; exact decide_eq_false fun h => hx h.1)
    have HX := Lib.hid hx
    clear hx
    go_enter Tryd.func22, Tryd.ntmps22
    have hB := Below.refl w.heap.size w
    go_wp2_with (refine wpList_box_agg rfl 29 _ rfl [vax, vay, .bool false] rfl ?_)
    intro w1 hk2 hb
    have hz_ := hB.size
    replace hB := hB.trans (hb.mono hB.size)
    clear hb
    obtain ⟨g2, hg_⟩ : ∃ g, g = w.heap.size := ⟨_, rfl⟩
    rw [← hg_] at hk2 ⊢
    have HG2 : Hid (w.heap.size ≤ g2) := Lib.hid (by rw [hg_]; exact hz_)
    clear hg_ hz_
    go_wp2_with (refine wpList_box_agg rfl 29 _ rfl [vbx, vby, .bool false] rfl ?_)
    intro w2 hk3 hb
    have hz_ := hB.size
    have lt2_ := hk2.lt
    replace hB := hB.trans (hb.mono hB.size)
    replace hk2 := hk2.keep hb
    clear hb
    obtain ⟨g3, hg_⟩ : ∃ g, g = w1.heap.size := ⟨_, rfl⟩
    rw [← hg_] at hk3 ⊢
    have HG3 : Hid (w.heap.size ≤ g3) := Lib.hid (by rw [hg_]; exact hz_)
    have NE2_3 : Hid (g2 ≠ g3) := Lib.hid (by rw [hg_]; exact Nat.ne_of_lt lt2_)
    clear hg_ hz_ lt2_
    have h_ := sameNat_can (cax.below hB) (cbx.below hB)
    rw [show decide (X = X') = false from decide_eq_false HX.out] at h_
    have q0_ := hk2.cell 2 rfl
    have q1_ := hk3.cell 2 rfl
    have q2_ := hk2.cell 0 rfl
    have q3_ := hk3.cell 0 rfl
    go_wp2_with fail
    refine (h_).mono ?_; rintro e_ w3 ⟨rfl, hd_⟩
    clear q0_ q1_ q2_ q3_
    have hb := hd_.b
    replace hB := hB.trans (hb.mono hB.size)
    replace hk2 := hk2.keep hb
    replace hk3 := hk3.keep hb
    clear hb hd_ h_
    go_wp2_with fail
    go_ret
    exact ⟨by rw [HE.out]; first | done | rfl, hB⟩
def TwinPost (xs ys : List Int) (inf : Bool) (W : World) (e : Ending) (w' : World) : Prop := ∃ gx gy, e = .returned (.agg #[.slice (some ⟨gx, 0, none⟩) xs.length (xs.length + 4), .slice (some ⟨gy, 0, none⟩) ys.length (ys.length + 4), .bool inf]) ∧ W.heap.size ≤ gx ∧ gx < gy ∧
  Blk w' gx .u32 36 (xs ++ mw4) ∧ Blk w' gy .u32 36 (ys ++ mw4) ∧ Below W.heap.size W w'
set_option maxHeartbeats 4000000 in
set_option maxRecDepth 20000 in
theorem twin_c {ax ay : Option Addr} {cx cy : Nat} {xs ys : List Int} {inf : Bool} {w : World} (hx : Sl .u32 w ax cx xs) (hy : Sl .u32 w ay cy ys) (lx : xs.length ≤ 17592186044415) (ly : ys.length ≤ 17592186044415) :
    Calls Tryd.prog 31 #[.agg #[.slice ax xs.length cx, .slice ay ys.length cy, .bool inf]] w (TwinPost xs ys inf w) := by
  obtain ⟨nx, hnx⟩ : ∃ n, n = xs.length := ⟨_, rfl⟩
  obtain ⟨ny, hny⟩ : ∃ n, n = ys.length := ⟨_, rfl⟩
  have wx := fun W (h : Sl .u32 W ax cx xs) => wide_c ax cx xs W h lx
  have wy := fun W (h : Sl .u32 W ay cy ys) => wide_c ay cy ys W h ly
  unfold WidePost at wx wy
  unfold TwinPost
  rw [← hnx] at wx ⊢
  rw [← hny] at wy ⊢
  clear hnx hny lx ly
  go_enter Tryd.func31, Tryd.ntmps31
  have hB := Below.refl w.heap.size w
  go_wp2_with (refine wpList_box_agg rfl 29 _ rfl [(.slice ax nx cx), (.slice ay ny cy), .bool inf] rfl ?_)
  intro w1 hk1 hb
  have hz_ := hB.size
  replace hB := hB.trans (hb.mono hB.size)
  clear hb
  obtain ⟨g1, hg_⟩ : ∃ g, g = w.heap.size := ⟨_, rfl⟩
  rw [← hg_] at hk1 ⊢
  have HG1 : Hid (w.heap.size ≤ g1) := Lib.hid (by rw [hg_]; exact hz_)
  clear hg_ hz_
  go_wp2_with (refine wpList_alloc_agg rfl 29 rfl [(.slice none 0 0), (.slice none 0 0), (.bool false)] 3 (by kernel_rfl) ?_)
  intro w2 hk2 hb
  have hz_ := hB.size
  have lt1_ := hk1.lt
  replace hB := hB.trans (hb.mono hB.size)
  replace hk1 := hk1.keep hb
  clear hb
  obtain ⟨g2, hg_⟩ : ∃ g, g = w1.heap.size := ⟨_, rfl⟩
  rw [← hg_] at hk2 ⊢
  have HG2 : Hid (w.heap.size ≤ g2) := Lib.hid (by rw [hg_]; exact hz_)
  have NE1_2 : Hid (g1 ≠ g2) := Lib.hid (by rw [hg_]; exact Nat.ne_of_lt lt1_)
  clear hg_ hz_ lt1_
  go_wp2_with fail
  refine wp_region_held_drew (S := fun W_ => Rw W_ g1 29 [(.slice ax nx cx), (.slice ay ny cy), .bool inf]) (by kernel_rfl) (hk1) (fun hS => ?_)
  have hb := below_drewN (Below.refl w2.heap.size w2) 1
  obtain ⟨w3, hw_⟩ : ∃ x, x = World.drew w2 := ⟨_, rfl⟩
  rw [show World.drewN w2 1 = w3 from hw_.symm] at hb
  rw [← hw_] at hS ⊢
  clear hw_
  replace hB := hB.trans (hb.mono hB.size)
  replace hk1 := hk1.keep hb
  replace hk2 := hk2.keep hb
  clear hb
  refine wpAnyH_take (i := 0) (v := ?_) rfl (by kernel_rfl) (by kernel_rfl) (by kernel_rfl) (fun _ _ _ h => h) (Or.inl ⟨by rfl, ?_⟩) hS ?_
  rotate_left
  · intro w _; go_simp; try with_reducible rfl
  simp only [List.getElem_toArray, List.getElem_cons_zero, List.getElem_cons_succ, Act.put, List.setIfInBounds_toArray, List.set_cons_zero, List.set_cons_succ]
  refine wpAnyH_take (i := 1) (v := ?_) rfl (by kernel_rfl) (by kernel_rfl) (by kernel_rfl) (fun _ _ _ h => h) (Or.inl ⟨by rfl, ?_⟩) hS ?_
  rotate_left
  · intro W_ hW_; have c_ := Rw.cell hW_ 0 rfl; go_simp; try with_reducible rfl
  simp only [List.getElem_toArray, List.getElem_cons_zero, List.getElem_cons_succ, Act.put, List.setIfInBounds_toArray, List.set_cons_zero, List.set_cons_succ]
  refine wpAnyH_take (i := 3) (v := ?_) rfl (by kernel_rfl) (by kernel_rfl) (by kernel_rfl) (fun _ _ _ h => h) (Or.inl ⟨by rfl, ?_⟩) hS ?_
  rotate_left
  · intro w _; go_simp; try with_reducible rfl
  simp only [List.getElem_toArray, List.getElem_cons_zero, List.getElem_cons_succ, Act.put, List.setIfInBounds_toArray, List.set_cons_zero, List.set_cons_succ]
  refine wpAnyH_take (i := 4) (v := ?_) rfl (by kernel_rfl) (by kernel_rfl) (by kernel_rfl) (fun _ _ _ h => h) (Or.inl ⟨by rfl, ?_⟩) hS ?_
  rotate_left
  · intro W_ hW_; have c_ := Rw.cell hW_ 1 rfl; go_simp; try with_reducible rfl
  simp only [List.getElem_toArray, List.getElem_cons_zero, List.getElem_cons_succ, Act.put, List.setIfInBounds_toArray, List.set_cons_zero, List.set_cons_succ]
  refine wpAnyH_take (i := 6) (v := ?_) rfl (by kernel_rfl) (by kernel_rfl) (by kernel_rfl) (fun _ _ _ h => h) (Or.inl ⟨by rfl, ?_⟩) hS ?_
  rotate_left
  · intro w _; go_simp; try with_reducible rfl
  simp only [List.getElem_toArray, List.getElem_cons_zero, List.getElem_cons_succ, Act.put, List.setIfInBounds_toArray, List.set_cons_zero, List.set_cons_succ]
  refine wpAnyH_take (i := 7) (v := ?_) rfl (by kernel_rfl) (by kernel_rfl) (by kernel_rfl) (fun _ _ _ h => h) (Or.inl ⟨by rfl, ?_⟩) hS ?_
  rotate_left
  · intro W_ hW_; have c_ := Rw.cell hW_ 2 rfl; go_simp; try with_reducible rfl
  simp only [List.getElem_toArray, List.getElem_cons_zero, List.getElem_cons_succ, Act.put, List.setIfInBounds_toArray, List.set_cons_zero, List.set_cons_succ]
  refine wpAnyH_ready (rs := [2]) (by kernel_rfl) (by simp) ?_
  refine AllReadyH.cons rfl (fun K hK => ?_) AllReadyH.nil
  rw [if_pos (by rfl)]
  simp only [List.getElem_toArray, List.getElem_cons_zero, List.getElem_cons_succ]
  go_simp
  refine (wx _ (hx.below hB)).mono ?_; rintro e_ w4 ⟨gwx, rfl, hge_, kwx, hb⟩
  dsimp only
  have nb_kwx_1 : Hid (gwx ≠ g1) := Lib.hid (by have := hk1.lt; have := hge_; omega)
  have nb_kwx_2 : Hid (gwx ≠ g2) := Lib.hid (by have := hk2.lt; have := hge_; omega)
  have HB_kwx : Hid (w.heap.size ≤ gwx) := Lib.hid (Nat.le_trans hB.size hge_)
  replace hB := hB.trans (hb.mono hB.size)
  replace hk1 := hk1.keep hb
  replace hk2 := hk2.keep hb
  clear hb hge_
  refine hK.out _ _ hk1 (fun hS => ?_)
  refine wpAnyH_ready (rs := [5]) (by kernel_rfl) (by simp) ?_
  refine AllReadyH.cons rfl (fun K hK => ?_) AllReadyH.nil
  rw [if_pos (by rfl)]
  simp only [List.getElem_toArray, List.getElem_cons_zero, List.getElem_cons_succ]
  go_simp
  refine (wy _ (hy.below hB)).mono ?_; rintro e_ w5 ⟨gwy, rfl, hge_, kwy, hb⟩
  dsimp only
  have nb_kwy_1 : Hid (gwy ≠ g1) := Lib.hid (by have := hk1.lt; have := hge_; omega)
  have nb_kwy_2 : Hid (gwy ≠ g2) := Lib.hid (by have := hk2.lt; have := hge_; omega)
  have nbb_kwx_kwy : Hid (gwx ≠ gwy) := Lib.hid (by have := kwx.lt; have := hge_; omega)
  have HB_kwy : Hid (w.heap.size ≤ gwy) := Lib.hid (Nat.le_trans hB.size hge_)
  have hxy : Hid (gwx < gwy) := Lib.hid (by have := kwx.lt; omega)
  replace hB := hB.trans (hb.mono hB.size)
  replace hk1 := hk1.keep hb
  replace hk2 := hk2.keep hb
  replace kwx := kwx.keep hb
  clear hb hge_
  refine hK.out _ _ hk1 (fun hS => ?_)
  refine wpAnyH_ready (rs := [8]) (by kernel_rfl) (by simp) ?_
  refine AllReadyH.cons rfl (fun K hK => ?_) AllReadyH.nil
  rw [if_pos (by rfl)]
  simp only [List.getElem_toArray, List.getElem_cons_zero, List.getElem_cons_succ]
  go_simp
  refine hK.out _ _ hS (fun hS => ?_)
  refine wpAnyH_ready (rs := [9]) (by kernel_rfl) (by simp) ?_
  refine AllReadyH.cons rfl (fun K hK => ?_) AllReadyH.nil
  rw [if_pos (by rfl)]
  simp only [List.getElem_toArray, List.getElem_cons_zero, List.getElem_cons_succ]
  refine wp_store_agg 29 _ _ rfl g2 29 [(.slice none 0 0), (.slice none 0 0), (.bool false)] [(.slice (some ⟨gwx, 0, none⟩) nx (nx + 4)), (.slice (some ⟨gwy, 0, none⟩) ny (ny + 4)), .bool inf] rfl rfl hk2 size_pt (by intro v_ hv_; simp only [List.mem_cons, List.not_mem_nil, or_false] at hv_; rcases hv_ with rfl | rfl | rfl <;> rfl) rfl ?_
  intro w6 hn hg
  replace hB := hB.grown hg hB.size (by intro k_ hk_; cases hk_; exact HG2.out)
  replace hk1 := hk1.grown hg (fun e_ => NE1_2.out (Option.some.inj e_))
  replace hk2 := hn
  replace kwx := kwx.grown hg (fun e_ => nb_kwx_2.out (Option.some.inj e_))
  replace kwy := kwy.grown hg (fun e_ => nb_kwy_2.out (Option.some.inj e_))
  clear hn hg
  refine hK.out _ _ hk1 (fun hS => ?_)
  refine wpAnyH_done (by kernel_rfl) ?_ _
  clear hS
  go_wp2_with fail
  refine bodyPost_ret (results_agg rfl rfl hk2 Tryd.underlying29 rfl size_pt) rfl ?_
  exact ⟨gwx, gwy, rfl, HB_kwx.out, hxy.out, kwx, kwy, hB⟩
set_option maxHeartbeats 4000000 in
set_option maxRecDepth 20000 in
theorem still_c13 {ax ay : Option Addr} {cx cy gx gy : Nat} {xs ys : List Int} {inf : Bool} {w : World} (kx : Blk w gx .u32 36 (xs ++ mw4)) (ky : Blk w gy .u32 36 (ys ++ mw4)) (hx : Sl .u32 w ax cx xs) (hy : Sl .u32 w ay cy ys) (lx : xs.length ≤ 17592186044415) (ly : ys.length ≤ 17592186044415) :
    Calls Tryd.prog 35 #[.agg #[.slice (some ⟨gx, 0, none⟩) xs.length (xs.length + 4), .slice (some ⟨gy, 0, none⟩) ys.length (ys.length + 4), .bool inf], .agg #[.slice ax xs.length cx, .slice ay ys.length cy, .bool inf]] w (fun e w' => e = .returned (.bool true) ∧ Below w.heap.size w w') := by
  obtain ⟨nx, hnx⟩ : ∃ n, n = xs.length := ⟨_, rfl⟩
  obtain ⟨ny, hny⟩ : ∃ n, n = ys.length := ⟨_, rfl⟩
  have wx := fun W (k : Blk W gx .u32 36 (xs ++ mw4)) (h : Sl .u32 W ax cx xs) => kept_c gx ax cx xs W k h lx
  have wy := fun W (k : Blk W gy .u32 36 (ys ++ mw4)) (h : Sl .u32 W ay cy ys) => kept_c gy ay cy ys W k h ly
  rw [← hnx] at wx ⊢
  rw [← hny] at wy ⊢
  clear hnx hny lx ly
  go_enter Tryd.func35, Tryd.ntmps35
  have hB := Below.refl w.heap.size w
  go_wp2_with (refine wpList_box_agg rfl 29 _ rfl [(.slice (some ⟨gx, 0, none⟩) nx (nx + 4)), (.slice (some ⟨gy, 0, none⟩) ny (ny + 4)), .bool inf] rfl ?_)
  intro w1 hk2 hb
  have hz_ := hB.size
  replace hB := hB.trans (hb.mono hB.size)
  clear hb
  obtain ⟨g2, hg_⟩ : ∃ g, g = w.heap.size := ⟨_, rfl⟩
  rw [← hg_] at hk2 ⊢
  have HG2 : Hid (w.heap.size ≤ g2) := Lib.hid (by rw [hg_]; exact hz_)
  clear hg_ hz_
  go_wp2_with (refine wpList_box_agg rfl 29 _ rfl [(.slice ax nx cx), (.slice ay ny cy), .bool inf] rfl ?_)
  intro w2 hk3 hb
  have hz_ := hB.size
  have lt2_ := hk2.lt
  replace hB := hB.trans (hb.mono hB.size)
  replace hk2 := hk2.keep hb
  clear hb
  obtain ⟨g3, hg_⟩ : ∃ g, g = w1.heap.size := ⟨_, rfl⟩
  rw [← hg_] at hk3 ⊢
  have HG3 : Hid (w.heap.size ≤ g3) := Lib.hid (by rw [hg_]; exact hz_)
  have NE2_3 : Hid (g2 ≠ g3) := Lib.hid (by rw [hg_]; exact Nat.ne_of_lt lt2_)
  clear hg_ hz_ lt2_
  have q0_ := hk2.cell 0 rfl
  have q1_ := hk3.cell 0 rfl
  go_wp2_with fail
  refine (wx _ (kx.below hB kx.lt) (hx.below hB)).mono ?_; rintro e_ w3 ⟨rfl, hb⟩
  clear q0_ q1_
  replace hB := hB.trans (hb.mono hB.size)
  replace hk2 := hk2.keep hb
  replace hk3 := hk3.keep hb
  clear hb
  have q0_ := hk2.cell 1 rfl
  have q1_ := hk3.cell 1 rfl
  go_wp2_with fail
  refine (wy _ (ky.below hB ky.lt) (hy.below hB)).mono ?_; rintro e_ w4 ⟨rfl, hb⟩
  clear q0_ q1_
  replace hB := hB.trans (hb.mono hB.size)
  replace hk2 := hk2.keep hb
  replace hk3 := hk3.keep hb
  clear hb
  have q0_ := hk2.cell 2 rfl
  have q1_ := hk3.cell 2 rfl
  go_wp2_with fail
  go_ret
  exact ⟨by simp, hB⟩
end Go.Proofs.YtlolkighnnedfaaDoor
