import Derived.Test.YtlolkighnnedfaaGreatDoorZ32
import Derived.Test.YtlolkighnnedfaaGreatDoorZ22
/- signetref13: On, Add, Mul, by their contracts. (Printed by gen_edre.py.) -/
set_option linter.unusedVariables false
set_option linter.unusedSimpArgs false
namespace Go.Proofs.YtlolkighnnedfaaGreatDoor
open Go.RowKit Go.Sg
theorem nl_bl (k : Nat) : nl k ≤ 32 ↔ bl k ≤ 1024 := by unfold nl; omega

set_option maxHeartbeats 4000000 in
set_option maxRecDepth 20000 in
theorem rOn_c {va : Value} {X Y : Nat} {inf : Bool} {w : World} (ha : PtIn w va X Y inf) :
    Calls Tryz.prog 77 #[va] w (fun e w' => e = .returned (.bool (onB X Y inf)) ∧ Below w.heap.size w w') := by
  obtain ⟨vx, vy, rfl, nx, ny⟩ := ha
  cases hinf : inf with
  | true =>
    have HE := Lib.hid (onB_inf X Y)
    clear hinf
    go_enter Tryz.func77, Tryz.ntmps77
    have hB := Below.refl w.heap.size w
    go_wp2_with (refine wpList_box_agg rfl 31 _ rfl [vx, vy, .bool true] rfl ?_)
    intro w1 hk1 hb
    have hz_ := hB.size
    replace hB := hB.trans (hb.mono hB.size)
    clear hb
    obtain ⟨g1, hg_⟩ : ∃ g, g = w.heap.size := ⟨_, rfl⟩
    rw [← hg_] at hk1 ⊢
    have HG1 : Hid (w.heap.size ≤ g1) := Lib.hid (by rw [hg_]; exact hz_)
    clear hg_ hz_
    go_wp2_with fail
    refine wp_region_held_drew (S := fun W_ => Rw W_ g1 31 [vx, vy, .bool true]) (by kernel_rfl) (hk1) (fun hS => ?_)
    have hb := below_drewN (Below.refl w1.heap.size w1) 1
    obtain ⟨w2, hw_⟩ : ∃ x, x = World.drew w1 := ⟨_, rfl⟩
    rw [show World.drewN w1 1 = w2 from hw_.symm] at hb
    rw [← hw_] at hS ⊢
    clear hw_
    replace hB := hB.trans (hb.mono hB.size)
    replace hk1 := hk1.keep hb
    clear hb
    refine wpAnyH_take (i := 0) (v := ?_) rfl (by kernel_rfl) (by kernel_rfl) (by kernel_rfl) (fun _ _ _ h => h) (Or.inl ⟨by rfl, ?_⟩) hS ?_
    rotate_left
    · intro w _; go_simp; try with_reducible rfl
    simp only [List.getElem_toArray, List.getElem_cons_zero, List.getElem_cons_succ, Act.put, List.setIfInBounds_toArray, List.set_cons_zero, List.set_cons_succ]
    refine wpAnyH_take (i := 1) (v := ?_) rfl (by kernel_rfl) (by kernel_rfl) (by kernel_rfl) (fun _ _ _ h => h) (Or.inl ⟨by rfl, ?_⟩) hS ?_
    rotate_left
    · intro W_ hW_; have c_ := Rw.cell hW_ 2 rfl; go_simp; try with_reducible rfl
    simp only [List.getElem_toArray, List.getElem_cons_zero, List.getElem_cons_succ, Act.put, List.setIfInBounds_toArray, List.set_cons_zero, List.set_cons_succ]
    refine wpAnyH_ready (rs := [2]) (by kernel_rfl) (by simp) ?_
    refine AllReadyH.cons rfl (fun K hK => ?_) AllReadyH.nil
    rw [if_pos (by rfl)]
    simp only [List.getElem_toArray, List.getElem_cons_zero, List.getElem_cons_succ]
    go_simp
    refine hK.out _ _ hS (fun hS => ?_)
    refine wpAnyH_take (i := 3) (v := undef) rfl (by kernel_rfl) (by kernel_rfl) (by kernel_rfl) (fun _ _ _ h => h) (Or.inr ⟨by rfl, rfl⟩) hS ?_
    simp only [List.getElem_toArray, List.getElem_cons_zero, List.getElem_cons_succ, Act.put, List.setIfInBounds_toArray, List.set_cons_zero, List.set_cons_succ]
    refine wpAnyH_take (i := 4) (v := undef) rfl (by kernel_rfl) (by kernel_rfl) (by kernel_rfl) (fun _ _ _ h => h) (Or.inr ⟨by rfl, rfl⟩) hS ?_
    simp only [List.getElem_toArray, List.getElem_cons_zero, List.getElem_cons_succ, Act.put, List.setIfInBounds_toArray, List.set_cons_zero, List.set_cons_succ]
    refine wpAnyH_take (i := 5) (v := undef) rfl (by kernel_rfl) (by kernel_rfl) (by kernel_rfl) (fun _ _ _ h => h) (Or.inr ⟨by rfl, rfl⟩) hS ?_
    simp only [List.getElem_toArray, List.getElem_cons_zero, List.getElem_cons_succ, Act.put, List.setIfInBounds_toArray, List.set_cons_zero, List.set_cons_succ]
    refine wpAnyH_take (i := 6) (v := undef) rfl (by kernel_rfl) (by kernel_rfl) (by kernel_rfl) (fun _ _ _ h => h) (Or.inr ⟨by rfl, rfl⟩) hS ?_
    simp only [List.getElem_toArray, List.getElem_cons_zero, List.getElem_cons_succ, Act.put, List.setIfInBounds_toArray, List.set_cons_zero, List.set_cons_succ]
    refine wpAnyH_take (i := 7) (v := undef) rfl (by kernel_rfl) (by kernel_rfl) (by kernel_rfl) (fun _ _ _ h => h) (Or.inr ⟨by rfl, rfl⟩) hS ?_
    simp only [List.getElem_toArray, List.getElem_cons_zero, List.getElem_cons_succ, Act.put, List.setIfInBounds_toArray, List.set_cons_zero, List.set_cons_succ]
    refine wpAnyH_ready (rs := [8]) (by kernel_rfl) (by simp) ?_
    refine AllReadyH.cons rfl (fun K hK => ?_) AllReadyH.nil
    rw [if_pos (by rfl)]
    simp only [List.getElem_toArray, List.getElem_cons_zero, List.getElem_cons_succ]
    go_simp
    refine hK.out _ _ hS (fun hS => ?_)
    refine wpAnyH_ready (rs := [9]) (by kernel_rfl) (by simp) ?_
    refine AllReadyH.cons rfl (fun K hK => ?_) AllReadyH.nil
    rw [if_pos (by rfl)]
    simp only [List.getElem_toArray, List.getElem_cons_zero, List.getElem_cons_succ]
    go_simp
    refine hK.out _ _ hS (fun hS => ?_)
    refine wpAnyH_take (i := 10) (v := undef) rfl (by kernel_rfl) (by kernel_rfl) (by kernel_rfl) (fun _ _ _ h => h) (Or.inr ⟨by rfl, rfl⟩) hS ?_
    simp only [List.getElem_toArray, List.getElem_cons_zero, List.getElem_cons_succ, Act.put, List.setIfInBounds_toArray, List.set_cons_zero, List.set_cons_succ]
    refine wpAnyH_take (i := 11) (v := undef) rfl (by kernel_rfl) (by kernel_rfl) (by kernel_rfl) (fun _ _ _ h => h) (Or.inr ⟨by rfl, rfl⟩) hS ?_
    simp only [List.getElem_toArray, List.getElem_cons_zero, List.getElem_cons_succ, Act.put, List.setIfInBounds_toArray, List.set_cons_zero, List.set_cons_succ]
    refine wpAnyH_take (i := 12) (v := undef) rfl (by kernel_rfl) (by kernel_rfl) (by kernel_rfl) (fun _ _ _ h => h) (Or.inr ⟨by rfl, rfl⟩) hS ?_
    simp only [List.getElem_toArray, List.getElem_cons_zero, List.getElem_cons_succ, Act.put, List.setIfInBounds_toArray, List.set_cons_zero, List.set_cons_succ]
    refine wpAnyH_take (i := 13) (v := undef) rfl (by kernel_rfl) (by kernel_rfl) (by kernel_rfl) (fun _ _ _ h => h) (Or.inr ⟨by rfl, rfl⟩) hS ?_
    simp only [List.getElem_toArray, List.getElem_cons_zero, List.getElem_cons_succ, Act.put, List.setIfInBounds_toArray, List.set_cons_zero, List.set_cons_succ]
    refine wpAnyH_take (i := 14) (v := undef) rfl (by kernel_rfl) (by kernel_rfl) (by kernel_rfl) (fun _ _ _ h => h) (Or.inr ⟨by rfl, rfl⟩) hS ?_
    simp only [List.getElem_toArray, List.getElem_cons_zero, List.getElem_cons_succ, Act.put, List.setIfInBounds_toArray, List.set_cons_zero, List.set_cons_succ]
    refine wpAnyH_ready (rs := [15]) (by kernel_rfl) (by simp) ?_
    refine AllReadyH.cons rfl (fun K hK => ?_) AllReadyH.nil
    rw [if_pos (by rfl)]
    simp only [List.getElem_toArray, List.getElem_cons_zero, List.getElem_cons_succ]
    go_simp
    refine hK.out _ _ hS (fun hS => ?_)
    refine wpAnyH_done (by kernel_rfl) ?_ _
    clear hS
    go_wp2_with fail
    go_ret
    exact ⟨by rw [HE.out]; first | done | rfl, hB⟩
  | false =>
    clear hinf
    by_cases hx : X < eP
    · by_cases hy : Y < eP
      · obtain ⟨x, rfl⟩ : ∃ x : Fp, X = x.val := ⟨⟨X, hx⟩, rfl⟩
        obtain ⟨y, rfl⟩ : ∃ y : Fp, Y = y.val := ⟨⟨Y, hy⟩, rfl⟩
        have HX := Lib.hid (cmpI_lt hx)
        have HY := Lib.hid (cmpI_lt hy)
        clear hx hy
        go_enter Tryz.func77, Tryz.ntmps77
        have hB := Below.refl w.heap.size w
        go_wp2_with (refine wpList_box_agg rfl 31 _ rfl [vx, vy, .bool false] rfl ?_)
        intro w1 hk1 hb
        have hz_ := hB.size
        replace hB := hB.trans (hb.mono hB.size)
        clear hb
        obtain ⟨g1, hg_⟩ : ∃ g, g = w.heap.size := ⟨_, rfl⟩
        rw [← hg_] at hk1 ⊢
        have HG1 : Hid (w.heap.size ≤ g1) := Lib.hid (by rw [hg_]; exact hz_)
        clear hg_ hz_
        go_wp2_with fail
        refine wp_region_held_drew (S := fun W_ => Rw W_ g1 31 [vx, vy, .bool false]) (by kernel_rfl) (hk1) (fun hS => ?_)
        have hb := below_drewN (Below.refl w1.heap.size w1) 1
        obtain ⟨w2, hw_⟩ : ∃ x, x = World.drew w1 := ⟨_, rfl⟩
        rw [show World.drewN w1 1 = w2 from hw_.symm] at hb
        rw [← hw_] at hS ⊢
        clear hw_
        replace hB := hB.trans (hb.mono hB.size)
        replace hk1 := hk1.keep hb
        clear hb
        refine wpAnyH_take (i := 0) (v := ?_) rfl (by kernel_rfl) (by kernel_rfl) (by kernel_rfl) (fun _ _ _ h => h) (Or.inl ⟨by rfl, ?_⟩) hS ?_
        rotate_left
        · intro w _; go_simp; try with_reducible rfl
        simp only [List.getElem_toArray, List.getElem_cons_zero, List.getElem_cons_succ, Act.put, List.setIfInBounds_toArray, List.set_cons_zero, List.set_cons_succ]
        refine wpAnyH_take (i := 1) (v := ?_) rfl (by kernel_rfl) (by kernel_rfl) (by kernel_rfl) (fun _ _ _ h => h) (Or.inl ⟨by rfl, ?_⟩) hS ?_
        rotate_left
        · intro W_ hW_; have c_ := Rw.cell hW_ 2 rfl; go_simp; try with_reducible rfl
        simp only [List.getElem_toArray, List.getElem_cons_zero, List.getElem_cons_succ, Act.put, List.setIfInBounds_toArray, List.set_cons_zero, List.set_cons_succ]
        refine wpAnyH_ready (rs := [2]) (by kernel_rfl) (by simp) ?_
        refine AllReadyH.cons rfl (fun K hK => ?_) AllReadyH.nil
        rw [if_pos (by rfl)]
        simp only [List.getElem_toArray, List.getElem_cons_zero, List.getElem_cons_succ]
        go_simp
        refine hK.out _ _ hS (fun hS => ?_)
        refine wpAnyH_take (i := 3) (v := ?_) rfl (by kernel_rfl) (by kernel_rfl) (by kernel_rfl) (fun _ _ _ h => h) (Or.inl ⟨by rfl, ?_⟩) hS ?_
        rotate_left
        · intro w _; go_simp; try with_reducible rfl
        simp only [List.getElem_toArray, List.getElem_cons_zero, List.getElem_cons_succ, Act.put, List.setIfInBounds_toArray, List.set_cons_zero, List.set_cons_succ]
        refine wpAnyH_take (i := 4) (v := ?_) rfl (by kernel_rfl) (by kernel_rfl) (by kernel_rfl) (fun _ _ _ h => h) (Or.inl ⟨by rfl, ?_⟩) hS ?_
        rotate_left
        · intro W_ hW_; have c_ := Rw.cell hW_ 0 rfl; go_simp; try with_reducible rfl
        simp only [List.getElem_toArray, List.getElem_cons_zero, List.getElem_cons_succ, Act.put, List.setIfInBounds_toArray, List.set_cons_zero, List.set_cons_succ]
        refine wpAnyH_ready (rs := [5]) (by kernel_rfl) (by simp) ?_
        refine AllReadyH.cons rfl (fun K hK => ?_) AllReadyH.nil
        rw [if_pos (by rfl)]
        simp only [List.getElem_toArray, List.getElem_cons_zero, List.getElem_cons_succ]
        go_simp
        refine (rP_c w2).mono ?_; rintro e_ w3 ⟨v12, rfl, c12, hb⟩
        dsimp only
        replace hB := hB.trans (hb.mono hB.size)
        replace hk1 := hk1.keep hb
        clear hb
        refine hK.out _ _ hk1 (fun hS => ?_)
        have h_ := cmp7_v (nx.below hB) c12.num
        rw [HX.out] at h_
        refine wpAnyH_ready (rs := [6]) (by kernel_rfl) (by simp) ?_
        refine AllReadyH.cons rfl (fun K hK => ?_) AllReadyH.nil
        rw [if_pos (by rfl)]
        simp only [List.getElem_toArray, List.getElem_cons_zero, List.getElem_cons_succ]
        go_simp
        refine (h_).mono ?_; rintro e_ w4 ⟨rfl, rfl⟩
        dsimp only
        refine hK.out _ _ hS (fun hS => ?_)
        refine wpAnyH_ready (rs := [7]) (by kernel_rfl) (by simp) ?_
        refine AllReadyH.cons rfl (fun K hK => ?_) AllReadyH.nil
        rw [if_pos (by rfl)]
        simp only [List.getElem_toArray, List.getElem_cons_zero, List.getElem_cons_succ]
        go_simp
        refine hK.out _ _ hS (fun hS => ?_)
        refine wpAnyH_ready (rs := [8]) (by kernel_rfl) (by simp) ?_
        refine AllReadyH.cons rfl (fun K hK => ?_) AllReadyH.nil
        rw [if_pos (by rfl)]
        simp only [List.getElem_toArray, List.getElem_cons_zero, List.getElem_cons_succ]
        go_simp
        refine hK.out _ _ hS (fun hS => ?_)
        refine wpAnyH_ready (rs := [9]) (by kernel_rfl) (by simp) ?_
        refine AllReadyH.cons rfl (fun K hK => ?_) AllReadyH.nil
        rw [if_pos (by rfl)]
        simp only [List.getElem_toArray, List.getElem_cons_zero, List.getElem_cons_succ]
        go_simp
        refine hK.out _ _ hS (fun hS => ?_)
        refine wpAnyH_take (i := 10) (v := ?_) rfl (by kernel_rfl) (by kernel_rfl) (by kernel_rfl) (fun _ _ _ h => h) (Or.inl ⟨by rfl, ?_⟩) hS ?_
        rotate_left
        · intro w _; go_simp; try with_reducible rfl
        simp only [List.getElem_toArray, List.getElem_cons_zero, List.getElem_cons_succ, Act.put, List.setIfInBounds_toArray, List.set_cons_zero, List.set_cons_succ]
        refine wpAnyH_take (i := 11) (v := ?_) rfl (by kernel_rfl) (by kernel_rfl) (by kernel_rfl) (fun _ _ _ h => h) (Or.inl ⟨by rfl, ?_⟩) hS ?_
        rotate_left
        · intro W_ hW_; have c_ := Rw.cell hW_ 1 rfl; go_simp; try with_reducible rfl
        simp only [List.getElem_toArray, List.getElem_cons_zero, List.getElem_cons_succ, Act.put, List.setIfInBounds_toArray, List.set_cons_zero, List.set_cons_succ]
        refine wpAnyH_ready (rs := [12]) (by kernel_rfl) (by simp) ?_
        refine AllReadyH.cons rfl (fun K hK => ?_) AllReadyH.nil
        rw [if_pos (by rfl)]
        simp only [List.getElem_toArray, List.getElem_cons_zero, List.getElem_cons_succ]
        go_simp
        refine (rP_c w3).mono ?_; rintro e_ w4 ⟨v19, rfl, c19, hb⟩
        dsimp only
        replace hB := hB.trans (hb.mono hB.size)
        replace hk1 := hk1.keep hb
        replace c12 := c12.below hb
        clear hb
        refine hK.out _ _ hk1 (fun hS => ?_)
        have h_ := cmp7_v (ny.below hB) c19.num
        rw [HY.out] at h_
        refine wpAnyH_ready (rs := [13]) (by kernel_rfl) (by simp) ?_
        refine AllReadyH.cons rfl (fun K hK => ?_) AllReadyH.nil
        rw [if_pos (by rfl)]
        simp only [List.getElem_toArray, List.getElem_cons_zero, List.getElem_cons_succ]
        go_simp
        refine (h_).mono ?_; rintro e_ w5 ⟨rfl, rfl⟩
        dsimp only
        refine hK.out _ _ hS (fun hS => ?_)
        refine wpAnyH_ready (rs := [14]) (by kernel_rfl) (by simp) ?_
        refine AllReadyH.cons rfl (fun K hK => ?_) AllReadyH.nil
        rw [if_pos (by rfl)]
        simp only [List.getElem_toArray, List.getElem_cons_zero, List.getElem_cons_succ]
        go_simp
        refine hK.out _ _ hS (fun hS => ?_)
        refine wpAnyH_ready (rs := [15]) (by kernel_rfl) (by simp) ?_
        refine AllReadyH.cons rfl (fun K hK => ?_) AllReadyH.nil
        rw [if_pos (by rfl)]
        simp only [List.getElem_toArray, List.getElem_cons_zero, List.getElem_cons_succ]
        go_simp
        refine hK.out _ _ hS (fun hS => ?_)
        refine wpAnyH_done (by kernel_rfl) ?_ _
        clear hS
        clear c12
        clear c19
        have q0_ := hk1.cell 0 rfl
        go_wp2_with fail
        refine (trim_v (nx.below hB)).mono ?_; rintro e_ w5 ⟨v25, rfl, hn, hb⟩
        clear q0_
        have c25 := hn.fp
        replace hB := hB.trans (hb.mono hB.size)
        replace hk1 := hk1.keep hb
        clear hb hn
        have q0_ := hk1.cell 1 rfl
        go_wp2_with fail
        refine (trim_v (ny.below hB)).mono ?_; rintro e_ w6 ⟨v28, rfl, hn, hb⟩
        clear q0_
        have c28 := hn.fp
        replace hB := hB.trans (hb.mono hB.size)
        replace hk1 := hk1.keep hb
        replace c25 := c25.below hb
        clear hb hn
        go_wp2_with fail
        refine (rmul_f c25.num c25.num ).mono ?_; rintro e_ w7 ⟨v31, rfl, hn, hb⟩
        have c31 := hn.fp
        replace hB := hB.trans (hb.mono hB.size)
        replace hk1 := hk1.keep hb
        replace c25 := c25.below hb
        replace c28 := c28.below hb
        clear hb hn
        go_wp2_with fail
        refine (rmul_f c28.num c28.num ).mono ?_; rintro e_ w8 ⟨v34, rfl, hn, hb⟩
        have c34 := hn.fp
        replace hB := hB.trans (hb.mono hB.size)
        replace hk1 := hk1.keep hb
        replace c25 := c25.below hb
        replace c28 := c28.below hb
        replace c31 := c31.below hb
        clear hb hn
        go_wp2_with fail
        refine (rsub_f c34.num c31.num ).mono ?_; rintro e_ w9 ⟨v37, rfl, hn, hb⟩
        have c37 := hn.fp
        replace hB := hB.trans (hb.mono hB.size)
        replace hk1 := hk1.keep hb
        replace c25 := c25.below hb
        replace c28 := c28.below hb
        replace c31 := c31.below hb
        replace c34 := c34.below hb
        clear hb hn
        go_wp2_with (refine wpList_lit rfl 29 64 _ rfl Tryz.underlying29 info32e 1 rfl ?_)
        intro w10 hl hb
        have c38 := (NatRes.lit (c := 1) hl (Nat.zero_le _) (by omega) (by omega)).can (k := 1) (by exact ⟨by decide +kernel⟩) (by omega)
        replace c38 : CanAt w10 _ (1 : Fp).val := c38
        obtain ⟨v38, hv38⟩ : ∃ v, v = Value.slice (some ⟨w9.heap.size, 0, none⟩) 1 1 := ⟨_, rfl⟩
        rw [← hv38] at c38 ⊢
        clear hv38 hl
        replace hB := hB.trans (hb.mono hB.size)
        replace hk1 := hk1.keep hb
        replace c25 := c25.below hb
        replace c28 := c28.below hb
        replace c31 := c31.below hb
        replace c34 := c34.below hb
        replace c37 := c37.below hb
        clear hb
        go_wp2_with fail
        refine (rcurve_c w10).mono ?_; rintro e_ w11 ⟨v39, rfl, c39, hb⟩
        replace hB := hB.trans (hb.mono hB.size)
        replace hk1 := hk1.keep hb
        replace c25 := c25.below hb
        replace c28 := c28.below hb
        replace c31 := c31.below hb
        replace c34 := c34.below hb
        replace c37 := c37.below hb
        replace c38 := c38.below hb
        clear hb
        go_wp2_with fail
        refine (rmul_f c31.num c34.num ).mono ?_; rintro e_ w12 ⟨v42, rfl, hn, hb⟩
        have c42 := hn.fp
        replace hB := hB.trans (hb.mono hB.size)
        replace hk1 := hk1.keep hb
        replace c25 := c25.below hb
        replace c28 := c28.below hb
        replace c31 := c31.below hb
        replace c34 := c34.below hb
        replace c37 := c37.below hb
        replace c38 := c38.below hb
        replace c39 := c39.below hb
        clear hb hn
        go_wp2_with fail
        refine (rmul_f c39.num c42.num ).mono ?_; rintro e_ w13 ⟨v43, rfl, hn, hb⟩
        have c43 := hn.fp
        replace hB := hB.trans (hb.mono hB.size)
        replace hk1 := hk1.keep hb
        replace c25 := c25.below hb
        replace c28 := c28.below hb
        replace c31 := c31.below hb
        replace c34 := c34.below hb
        replace c37 := c37.below hb
        replace c38 := c38.below hb
        replace c39 := c39.below hb
        replace c42 := c42.below hb
        clear hb hn
        go_wp2_with fail
        refine (radd_f c38.num c43.num ).mono ?_; rintro e_ w14 ⟨v44, rfl, hn, hb⟩
        have c44 := hn.fp
        replace hB := hB.trans (hb.mono hB.size)
        replace hk1 := hk1.keep hb
        replace c25 := c25.below hb
        replace c28 := c28.below hb
        replace c31 := c31.below hb
        replace c34 := c34.below hb
        replace c37 := c37.below hb
        replace c38 := c38.below hb
        replace c39 := c39.below hb
        replace c42 := c42.below hb
        replace c43 := c43.below hb
        clear hb hn
        go_wp2_with fail
        by_cases hon : y * y - x * x = 1 + eD * (x * x * (y * y))
        · have HE := Lib.hid (onB_is hon)
          have h_ := cmp7_v c37.num c44.num
          rw [cmpI_eq (congrArg Fin.val hon)] at h_
          clear hon
          refine h_.mono ?_; rintro e_ wz ⟨rfl, rfl⟩
          clear h_
          go_wp2_with fail
          go_ret
          exact ⟨by rw [HE.out]; first | done | rfl, hB⟩
        · have HE := Lib.hid (onB_no hon)
          obtain ⟨ck, hck⟩ : ∃ c, c = cmpI (y * y - x * x).val (1 + eD * (x * x * (y * y))).val := ⟨_, rfl⟩
          have hne : (ck == 0) = false := by rw [hck]; simpa using cmpI_ne_ (fun h => hon (fp_ext h))
          have h_ := cmp7_v c37.num c44.num
          rw [← hck] at h_
          clear hon hck
          refine h_.mono ?_; rintro e_ wz ⟨rfl, rfl⟩
          clear h_
          go_wp2_with fail
          go_ret
          exact ⟨by rw [HE.out]; first | done | rfl, hB⟩
      · have HE := Lib.hid (onB_y (X := X) (inf := false) hy)
        have HX := Lib.hid (cmpI_lt hx)
        obtain ⟨cj, hcj⟩ : ∃ c, c = cmpI Y eP := ⟨_, rfl⟩
        have hdc : decide ((0 : Int) ≤ cj) = true := decide_eq_true (by rw [hcj]; exact cmpI_ge_ hy)
        have HCJ := Lib.hid hcj
        clear hx hy hcj
        go_enter Tryz.func77, Tryz.ntmps77
        have hB := Below.refl w.heap.size w
        go_wp2_with (refine wpList_box_agg rfl 31 _ rfl [vx, vy, .bool false] rfl ?_)
        intro w1 hk1 hb
        have hz_ := hB.size
        replace hB := hB.trans (hb.mono hB.size)
        clear hb
        obtain ⟨g1, hg_⟩ : ∃ g, g = w.heap.size := ⟨_, rfl⟩
        rw [← hg_] at hk1 ⊢
        have HG1 : Hid (w.heap.size ≤ g1) := Lib.hid (by rw [hg_]; exact hz_)
        clear hg_ hz_
        go_wp2_with fail
        refine wp_region_held_drew (S := fun W_ => Rw W_ g1 31 [vx, vy, .bool false]) (by kernel_rfl) (hk1) (fun hS => ?_)
        have hb := below_drewN (Below.refl w1.heap.size w1) 1
        obtain ⟨w2, hw_⟩ : ∃ x, x = World.drew w1 := ⟨_, rfl⟩
        rw [show World.drewN w1 1 = w2 from hw_.symm] at hb
        rw [← hw_] at hS ⊢
        clear hw_
        replace hB := hB.trans (hb.mono hB.size)
        replace hk1 := hk1.keep hb
        clear hb
        refine wpAnyH_take (i := 0) (v := ?_) rfl (by kernel_rfl) (by kernel_rfl) (by kernel_rfl) (fun _ _ _ h => h) (Or.inl ⟨by rfl, ?_⟩) hS ?_
        rotate_left
        · intro w _; go_simp; try with_reducible rfl
        simp only [List.getElem_toArray, List.getElem_cons_zero, List.getElem_cons_succ, Act.put, List.setIfInBounds_toArray, List.set_cons_zero, List.set_cons_succ]
        refine wpAnyH_take (i := 1) (v := ?_) rfl (by kernel_rfl) (by kernel_rfl) (by kernel_rfl) (fun _ _ _ h => h) (Or.inl ⟨by rfl, ?_⟩) hS ?_
        rotate_left
        · intro W_ hW_; have c_ := Rw.cell hW_ 2 rfl; go_simp; try with_reducible rfl
        simp only [List.getElem_toArray, List.getElem_cons_zero, List.getElem_cons_succ, Act.put, List.setIfInBounds_toArray, List.set_cons_zero, List.set_cons_succ]
        refine wpAnyH_ready (rs := [2]) (by kernel_rfl) (by simp) ?_
        refine AllReadyH.cons rfl (fun K hK => ?_) AllReadyH.nil
        rw [if_pos (by rfl)]
        simp only [List.getElem_toArray, List.getElem_cons_zero, List.getElem_cons_succ]
        go_simp
        refine hK.out _ _ hS (fun hS => ?_)
        refine wpAnyH_take (i := 3) (v := ?_) rfl (by kernel_rfl) (by kernel_rfl) (by kernel_rfl) (fun _ _ _ h => h) (Or.inl ⟨by rfl, ?_⟩) hS ?_
        rotate_left
        · intro w _; go_simp; try with_reducible rfl
        simp only [List.getElem_toArray, List.getElem_cons_zero, List.getElem_cons_succ, Act.put, List.setIfInBounds_toArray, List.set_cons_zero, List.set_cons_succ]
        refine wpAnyH_take (i := 4) (v := ?_) rfl (by kernel_rfl) (by kernel_rfl) (by kernel_rfl) (fun _ _ _ h => h) (Or.inl ⟨by rfl, ?_⟩) hS ?_
        rotate_left
        · intro W_ hW_; have c_ := Rw.cell hW_ 0 rfl; go_simp; try with_reducible rfl
        simp only [List.getElem_toArray, List.getElem_cons_zero, List.getElem_cons_succ, Act.put, List.setIfInBounds_toArray, List.set_cons_zero, List.set_cons_succ]
        refine wpAnyH_ready (rs := [5]) (by kernel_rfl) (by simp) ?_
        refine AllReadyH.cons rfl (fun K hK => ?_) AllReadyH.nil
        rw [if_pos (by rfl)]
        simp only [List.getElem_toArray, List.getElem_cons_zero, List.getElem_cons_succ]
        go_simp
        refine (rP_c w2).mono ?_; rintro e_ w3 ⟨v12, rfl, c12, hb⟩
        dsimp only
        replace hB := hB.trans (hb.mono hB.size)
        replace hk1 := hk1.keep hb
        clear hb
        refine hK.out _ _ hk1 (fun hS => ?_)
        have h_ := cmp7_v (nx.below hB) c12.num
        rw [HX.out] at h_
        refine wpAnyH_ready (rs := [6]) (by kernel_rfl) (by simp) ?_
        refine AllReadyH.cons rfl (fun K hK => ?_) AllReadyH.nil
        rw [if_pos (by rfl)]
        simp only [List.getElem_toArray, List.getElem_cons_zero, List.getElem_cons_succ]
        go_simp
        refine (h_).mono ?_; rintro e_ w4 ⟨rfl, rfl⟩
        dsimp only
        refine hK.out _ _ hS (fun hS => ?_)
        refine wpAnyH_ready (rs := [7]) (by kernel_rfl) (by simp) ?_
        refine AllReadyH.cons rfl (fun K hK => ?_) AllReadyH.nil
        rw [if_pos (by rfl)]
        simp only [List.getElem_toArray, List.getElem_cons_zero, List.getElem_cons_succ]
        go_simp
        refine hK.out _ _ hS (fun hS => ?_)
        refine wpAnyH_ready (rs := [8]) (by kernel_rfl) (by simp) ?_
        refine AllReadyH.cons rfl (fun K hK => ?_) AllReadyH.nil
        rw [if_pos (by rfl)]
        simp only [List.getElem_toArray, List.getElem_cons_zero, List.getElem_cons_succ]
        go_simp
        refine hK.out _ _ hS (fun hS => ?_)
        refine wpAnyH_ready (rs := [9]) (by kernel_rfl) (by simp) ?_
        refine AllReadyH.cons rfl (fun K hK => ?_) AllReadyH.nil
        rw [if_pos (by rfl)]
        simp only [List.getElem_toArray, List.getElem_cons_zero, List.getElem_cons_succ]
        go_simp
        refine hK.out _ _ hS (fun hS => ?_)
        refine wpAnyH_take (i := 10) (v := ?_) rfl (by kernel_rfl) (by kernel_rfl) (by kernel_rfl) (fun _ _ _ h => h) (Or.inl ⟨by rfl, ?_⟩) hS ?_
        rotate_left
        · intro w _; go_simp; try with_reducible rfl
        simp only [List.getElem_toArray, List.getElem_cons_zero, List.getElem_cons_succ, Act.put, List.setIfInBounds_toArray, List.set_cons_zero, List.set_cons_succ]
        refine wpAnyH_take (i := 11) (v := ?_) rfl (by kernel_rfl) (by kernel_rfl) (by kernel_rfl) (fun _ _ _ h => h) (Or.inl ⟨by rfl, ?_⟩) hS ?_
        rotate_left
        · intro W_ hW_; have c_ := Rw.cell hW_ 1 rfl; go_simp; try with_reducible rfl
        simp only [List.getElem_toArray, List.getElem_cons_zero, List.getElem_cons_succ, Act.put, List.setIfInBounds_toArray, List.set_cons_zero, List.set_cons_succ]
        refine wpAnyH_ready (rs := [12]) (by kernel_rfl) (by simp) ?_
        refine AllReadyH.cons rfl (fun K hK => ?_) AllReadyH.nil
        rw [if_pos (by rfl)]
        simp only [List.getElem_toArray, List.getElem_cons_zero, List.getElem_cons_succ]
        go_simp
        refine (rP_c w3).mono ?_; rintro e_ w4 ⟨v19, rfl, c19, hb⟩
        dsimp only
        replace hB := hB.trans (hb.mono hB.size)
        replace hk1 := hk1.keep hb
        replace c12 := c12.below hb
        clear hb
        refine hK.out _ _ hk1 (fun hS => ?_)
        have h_ := cmp7_v (ny.below hB) c19.num
        rw [← HCJ.out] at h_
        refine wpAnyH_ready (rs := [13]) (by kernel_rfl) (by simp) ?_
        refine AllReadyH.cons rfl (fun K hK => ?_) AllReadyH.nil
        rw [if_pos (by rfl)]
        simp only [List.getElem_toArray, List.getElem_cons_zero, List.getElem_cons_succ]
        go_simp
        refine (h_).mono ?_; rintro e_ w5 ⟨rfl, rfl⟩
        dsimp only
        refine hK.out _ _ hS (fun hS => ?_)
        refine wpAnyH_ready (rs := [14]) (by kernel_rfl) (by simp) ?_
        refine AllReadyH.cons rfl (fun K hK => ?_) AllReadyH.nil
        rw [if_pos (by rfl)]
        simp only [List.getElem_toArray, List.getElem_cons_zero, List.getElem_cons_succ]
        go_simp
        refine hK.out _ _ hS (fun hS => ?_)
        refine wpAnyH_ready (rs := [15]) (by kernel_rfl) (by simp) ?_
        refine AllReadyH.cons rfl (fun K hK => ?_) AllReadyH.nil
        rw [if_pos (by rfl)]
        simp only [List.getElem_toArray, List.getElem_cons_zero, List.getElem_cons_succ]
        go_simp
        refine hK.out _ _ hS (fun hS => ?_)
        refine wpAnyH_done (by kernel_rfl) ?_ _
        clear hS
        go_wp2_with fail
        go_ret
        exact ⟨by rw [HE.out]; first | done | rfl, hB⟩
    · have HE := Lib.hid (onB_x (Y := Y) (inf := false) hx)
      obtain ⟨cj, hcj⟩ : ∃ c, c = cmpI X eP := ⟨_, rfl⟩
      have hdc : decide ((0 : Int) ≤ cj) = true := decide_eq_true (by rw [hcj]; exact cmpI_ge_ hx)
      have HCJ := Lib.hid hcj
      clear hx hcj
      go_enter Tryz.func77, Tryz.ntmps77
      have hB := Below.refl w.heap.size w
      go_wp2_with (refine wpList_box_agg rfl 31 _ rfl [vx, vy, .bool false] rfl ?_)
      intro w1 hk1 hb
      have hz_ := hB.size
      replace hB := hB.trans (hb.mono hB.size)
      clear hb
      obtain ⟨g1, hg_⟩ : ∃ g, g = w.heap.size := ⟨_, rfl⟩
      rw [← hg_] at hk1 ⊢
      have HG1 : Hid (w.heap.size ≤ g1) := Lib.hid (by rw [hg_]; exact hz_)
      clear hg_ hz_
      go_wp2_with fail
      refine wp_region_held_drew (S := fun W_ => Rw W_ g1 31 [vx, vy, .bool false]) (by kernel_rfl) (hk1) (fun hS => ?_)
      have hb := below_drewN (Below.refl w1.heap.size w1) 1
      obtain ⟨w2, hw_⟩ : ∃ x, x = World.drew w1 := ⟨_, rfl⟩
      rw [show World.drewN w1 1 = w2 from hw_.symm] at hb
      rw [← hw_] at hS ⊢
      clear hw_
      replace hB := hB.trans (hb.mono hB.size)
      replace hk1 := hk1.keep hb
      clear hb
      refine wpAnyH_take (i := 0) (v := ?_) rfl (by kernel_rfl) (by kernel_rfl) (by kernel_rfl) (fun _ _ _ h => h) (Or.inl ⟨by rfl, ?_⟩) hS ?_
      rotate_left
      · intro w _; go_simp; try with_reducible rfl
      simp only [List.getElem_toArray, List.getElem_cons_zero, List.getElem_cons_succ, Act.put, List.setIfInBounds_toArray, List.set_cons_zero, List.set_cons_succ]
      refine wpAnyH_take (i := 1) (v := ?_) rfl (by kernel_rfl) (by kernel_rfl) (by kernel_rfl) (fun _ _ _ h => h) (Or.inl ⟨by rfl, ?_⟩) hS ?_
      rotate_left
      · intro W_ hW_; have c_ := Rw.cell hW_ 2 rfl; go_simp; try with_reducible rfl
      simp only [List.getElem_toArray, List.getElem_cons_zero, List.getElem_cons_succ, Act.put, List.setIfInBounds_toArray, List.set_cons_zero, List.set_cons_succ]
      refine wpAnyH_ready (rs := [2]) (by kernel_rfl) (by simp) ?_
      refine AllReadyH.cons rfl (fun K hK => ?_) AllReadyH.nil
      rw [if_pos (by rfl)]
      simp only [List.getElem_toArray, List.getElem_cons_zero, List.getElem_cons_succ]
      go_simp
      refine hK.out _ _ hS (fun hS => ?_)
      refine wpAnyH_take (i := 3) (v := ?_) rfl (by kernel_rfl) (by kernel_rfl) (by kernel_rfl) (fun _ _ _ h => h) (Or.inl ⟨by rfl, ?_⟩) hS ?_
      rotate_left
      · intro w _; go_simp; try with_reducible rfl
      simp only [List.getElem_toArray, List.getElem_cons_zero, List.getElem_cons_succ, Act.put, List.setIfInBounds_toArray, List.set_cons_zero, List.set_cons_succ]
      refine wpAnyH_take (i := 4) (v := ?_) rfl (by kernel_rfl) (by kernel_rfl) (by kernel_rfl) (fun _ _ _ h => h) (Or.inl ⟨by rfl, ?_⟩) hS ?_
      rotate_left
      · intro W_ hW_; have c_ := Rw.cell hW_ 0 rfl; go_simp; try with_reducible rfl
      simp only [List.getElem_toArray, List.getElem_cons_zero, List.getElem_cons_succ, Act.put, List.setIfInBounds_toArray, List.set_cons_zero, List.set_cons_succ]
      refine wpAnyH_ready (rs := [5]) (by kernel_rfl) (by simp) ?_
      refine AllReadyH.cons rfl (fun K hK => ?_) AllReadyH.nil
      rw [if_pos (by rfl)]
      simp only [List.getElem_toArray, List.getElem_cons_zero, List.getElem_cons_succ]
      go_simp
      refine (rP_c w2).mono ?_; rintro e_ w3 ⟨v12, rfl, c12, hb⟩
      dsimp only
      replace hB := hB.trans (hb.mono hB.size)
      replace hk1 := hk1.keep hb
      clear hb
      refine hK.out _ _ hk1 (fun hS => ?_)
      have h_ := cmp7_v (nx.below hB) c12.num
      rw [← HCJ.out] at h_
      refine wpAnyH_ready (rs := [6]) (by kernel_rfl) (by simp) ?_
      refine AllReadyH.cons rfl (fun K hK => ?_) AllReadyH.nil
      rw [if_pos (by rfl)]
      simp only [List.getElem_toArray, List.getElem_cons_zero, List.getElem_cons_succ]
      go_simp
      refine (h_).mono ?_; rintro e_ w4 ⟨rfl, rfl⟩
      dsimp only
      refine hK.out _ _ hS (fun hS => ?_)
      refine wpAnyH_ready (rs := [7]) (by kernel_rfl) (by simp) ?_
      refine AllReadyH.cons rfl (fun K hK => ?_) AllReadyH.nil
      rw [if_pos (by rfl)]
      simp only [List.getElem_toArray, List.getElem_cons_zero, List.getElem_cons_succ]
      go_simp
      refine hK.out _ _ hS (fun hS => ?_)
      refine wpAnyH_ready (rs := [8]) (by kernel_rfl) (by simp) ?_
      refine AllReadyH.cons rfl (fun K hK => ?_) AllReadyH.nil
      rw [if_pos (by rfl)]
      simp only [List.getElem_toArray, List.getElem_cons_zero, List.getElem_cons_succ]
      go_simp
      refine hK.out _ _ hS (fun hS => ?_)
      refine wpAnyH_ready (rs := [9]) (by kernel_rfl) (by simp) ?_
      refine AllReadyH.cons rfl (fun K hK => ?_) AllReadyH.nil
      rw [if_pos (by rfl)]
      simp only [List.getElem_toArray, List.getElem_cons_zero, List.getElem_cons_succ]
      go_simp
      refine hK.out _ _ hS (fun hS => ?_)
      refine wpAnyH_take (i := 10) (v := undef) rfl (by kernel_rfl) (by kernel_rfl) (by kernel_rfl) (fun _ _ _ h => h) (Or.inr ⟨by rfl, rfl⟩) hS ?_
      simp only [List.getElem_toArray, List.getElem_cons_zero, List.getElem_cons_succ, Act.put, List.setIfInBounds_toArray, List.set_cons_zero, List.set_cons_succ]
      refine wpAnyH_take (i := 11) (v := undef) rfl (by kernel_rfl) (by kernel_rfl) (by kernel_rfl) (fun _ _ _ h => h) (Or.inr ⟨by rfl, rfl⟩) hS ?_
      simp only [List.getElem_toArray, List.getElem_cons_zero, List.getElem_cons_succ, Act.put, List.setIfInBounds_toArray, List.set_cons_zero, List.set_cons_succ]
      refine wpAnyH_take (i := 12) (v := undef) rfl (by kernel_rfl) (by kernel_rfl) (by kernel_rfl) (fun _ _ _ h => h) (Or.inr ⟨by rfl, rfl⟩) hS ?_
      simp only [List.getElem_toArray, List.getElem_cons_zero, List.getElem_cons_succ, Act.put, List.setIfInBounds_toArray, List.set_cons_zero, List.set_cons_succ]
      refine wpAnyH_take (i := 13) (v := undef) rfl (by kernel_rfl) (by kernel_rfl) (by kernel_rfl) (fun _ _ _ h => h) (Or.inr ⟨by rfl, rfl⟩) hS ?_
      simp only [List.getElem_toArray, List.getElem_cons_zero, List.getElem_cons_succ, Act.put, List.setIfInBounds_toArray, List.set_cons_zero, List.set_cons_succ]
      refine wpAnyH_take (i := 14) (v := undef) rfl (by kernel_rfl) (by kernel_rfl) (by kernel_rfl) (fun _ _ _ h => h) (Or.inr ⟨by rfl, rfl⟩) hS ?_
      simp only [List.getElem_toArray, List.getElem_cons_zero, List.getElem_cons_succ, Act.put, List.setIfInBounds_toArray, List.set_cons_zero, List.set_cons_succ]
      refine wpAnyH_ready (rs := [15]) (by kernel_rfl) (by simp) ?_
      refine AllReadyH.cons rfl (fun K hK => ?_) AllReadyH.nil
      rw [if_pos (by rfl)]
      simp only [List.getElem_toArray, List.getElem_cons_zero, List.getElem_cons_succ]
      go_simp
      refine hK.out _ _ hS (fun hS => ?_)
      refine wpAnyH_done (by kernel_rfl) ?_ _
      clear hS
      go_wp2_with fail
      go_ret
      exact ⟨by rw [HE.out]; first | done | rfl, hB⟩
end Go.Proofs.YtlolkighnnedfaaGreatDoor
/- signetlaw13: twin, still, one; the answers of Add and Mul in one form. (Printed by gen_edlb.py.) -/
set_option linter.unusedVariables false
set_option linter.unusedSimpArgs false
namespace Go.Sg
open Go.RowKit
theorem Blk.keep {w w' : World} {g : Nat} {k : IntKind} {E : TypeId} {xs : List Int} (h : Blk w g k E xs) (hb : Below w.heap.size w w') : Blk w' g k E xs := h.below hb h.lt
end Go.Sg
namespace Go.Proofs.YtlolkighnnedfaaGreatDoor
open Go.RowKit Go.Sg
/-- An answer: two numbers of the call's own. -/
def PtN (B : Nat) (w : World) (v : Value) (X Y : Nat) : Prop := ∃ vx vy, v = .agg #[vx, vy, .bool false] ∧ NatRes B w vx X ∧ NatRes B w vy Y
def AnsPost (r : Int × Nat × Nat) (W : World) (e : Ending) (w' : World) : Prop := ∃ v, e = .returned (.tuple #[v, .int .i64 r.1]) ∧ PtN W.heap.size w' v r.2.1 r.2.2 ∧ Below W.heap.size W w'
def ptA (P : Pt) : Int × Nat × Nat := (0, P.1.val, P.2.val)
def noA (c : Int) : Int × Nat × Nat := (c, 0, 0)
theorem PtOk.ans {Q : Pt} {W : World} {e : Ending} {w' : World} (h : PtOk Q W e w') : AnsPost (ptA Q) W e w' := by
  obtain ⟨v, rfl, ⟨vx, vy, rfl, h1, h2, _⟩, hb⟩ := h
  exact ⟨_, rfl, ⟨_, _, rfl, h1, h2⟩, hb⟩
theorem NoPt.ans {c : Int} {W : World} {e : Ending} {w' : World} (h : NoPt c W e w') : AnsPost (noA c) W e w' := by
  obtain ⟨rfl, hb⟩ := h
  exact ⟨_, rfl, ⟨_, _, rfl, NatRes.nil0 _ _, NatRes.nil0 _ _⟩, hb⟩
def addA (X Y : Nat) (i : Bool) (X' Y' : Nat) (i' : Bool) : Int × Nat × Nat := match ptOf X Y i, ptOf X' Y' i' with
  | some P, some Q => ptA (eAdd P Q)
  | _, _ => noA 93
def mulA (k X Y : Nat) (i : Bool) : Int × Nat × Nat := match ptOf X Y i with
  | some P => if bl k ≤ 1024 then ptA (eMul k P) else noA 10
  | none => noA 93
theorem onB_none {X Y : Nat} {i : Bool} (h : ptOf X Y i = none) : onB X Y i = false := by unfold onB; rw [h]; rfl
theorem onB_some {X Y : Nat} {i : Bool} {P : Pt} (h : ptOf X Y i = some P) : onB X Y i = true := by unfold onB; rw [h]; rfl
section
variable {va vb vk : Value} {X Y X' Y' k : Nat} {i i' : Bool} {w : World}
end
/-- The numbers of all answers are small. -/
def Small (r : Int × Nat × Nat) : Prop := Lim 8 r.2.1 ∧ Lim 8 r.2.2
theorem small_pt (P : Pt) : Small (ptA P) := ⟨lim_fp _, lim_fp _⟩
theorem small_no (c : Int) : Small (noA c) := ⟨⟨Rpow_pos 8⟩, ⟨Rpow_pos 8⟩⟩
theorem addA_small (X Y : Nat) (i : Bool) (X' Y' : Nat) (i' : Bool) : Small (addA X Y i X' Y' i') := by
  unfold addA
  split
  · exact small_pt _
  · exact small_no _
theorem mulA_small (k X Y : Nat) (i : Bool) : Small (mulA k X Y i) := by
  unfold mulA
  split
  · split
    · exact small_pt _
    · exact small_no _
  · exact small_no _

def TwinPost (xs ys : List Int) (inf : Bool) (W : World) (e : Ending) (w' : World) : Prop := ∃ gx gy, e = .returned (.agg #[.slice (some ⟨gx, 0, none⟩) xs.length (xs.length + 4), .slice (some ⟨gy, 0, none⟩) ys.length (ys.length + 4), .bool inf]) ∧ W.heap.size ≤ gx ∧ gx < gy ∧
  Blk w' gx .u32 64 (xs ++ mw4) ∧ Blk w' gy .u32 64 (ys ++ mw4) ∧ Below W.heap.size W w'
end Go.Proofs.YtlolkighnnedfaaGreatDoor
/- signetlaw13: same, roomy, spared, by their contracts. (Printed by gen_edlc.py.) -/
set_option linter.unusedVariables false
set_option linter.unusedSimpArgs false
namespace Go.Sg
open Go.RowKit
/-- The marks behind a roomy copy. -/
def mb9 : List Int := List.replicate 9 165
theorem mb9_len : mb9.length = 9 := rfl
theorem room_sl {w : World} {g : Nat} {E : TypeId} {xs : List Int} (h : Blk w g .u8 E (xs ++ mb9)) (hl : xs.length ≤ 140737488350000) : Sl .u8 w (some ⟨g, 0, none⟩) (xs.length + 9) xs := by
  have := h.sl xs.length (xs.length + 9) (by omega) (by omega)
  rwa [List.take_left] at this
end Go.Sg
namespace Go.Proofs.YtlolkighnnedfaaGreatDoor
open Go.RowKit Go.Sg
theorem size8L : (Tryz.prog.info? 5).map (·.size) = some 1 := by kernel_rfl
set_option maxHeartbeats 1000000 in
theorem same13_c (a a' : Option Addr) (cap cap' : Nat) (xs ys : List Int) (w : World) (hx : Sl .u8 w a cap xs) (hy : Sl .u8 w a' cap' ys) :
    Calls Tryz.prog 37 #[.slice a xs.length cap, .slice a' ys.length cap'] w (BoolPost (decide (xs = ys)) w) := by
  have hxm := Nat.le_trans hx.le hx.max
  have hym := Nat.le_trans hy.le hy.max
  by_cases hl : xs.length = ys.length
  · obtain ⟨n, hn⟩ : ∃ n, n = ys.length := ⟨_, rfl⟩
    have HN := Lib.hid hn
    have HX := Lib.hid (show xs.length = n by omega)
    rw [hl]
    rw [← hn] at hym ⊢
    clear hl hn hxm
    have hne : ((n : Int) != n) = false := by simp
    go_enter Tryz.func37, Tryz.ntmps37
    go_wp2_with fail
    go_loopw [5] (fun t wr => ∃ i : Nat, i ≤ n ∧ t = .int .i64 (i : Int) ∧ (∀ j, j < i → nth xs j = nth ys j) ∧ Dr w wr)
      (fun t _ => n - (intOf t).toNat)
    case atStart => exact ⟨0, by omega, rfl, fun j hj => by omega, .refl _⟩
    case round =>
      obtain ⟨i, hi, rfl, hall, nd, rfl⟩ := hrel
      have HA := Lib.hid hall
      clear hall
      by_cases hlt : i < n
      · obtain ⟨b, off, rfl, hcc⟩ := hx.cells (by have := HX.out; omega)
        obtain ⟨b', off', rfl, hcc'⟩ := hy.cells (by have := HN.out; omega)
        have c1 := hcc i (by have := HX.out; omega)
        have c2 := hcc' i (by have := HN.out; omega)
        clear hcc hcc'
        by_cases he : nth xs i = nth ys i
        · have HE := Lib.hid he
          have g1 : (nth xs i != nth ys i) = false := by rw [he]; simp
          clear he
          go_wp2_with fail
          go_quiet (fail)
          go_wp2_with fail
          go_roundw
          case rel => exact ⟨i + 1, by omega, by go_num, fun j hj => by
            by_cases h : j = i
            · rw [h]; exact HE.out
            · exact HA.out j (by omega), (by repeat (first | exact Dr.refl _ | apply Dr.drewN))⟩
          case measure => simp [intOf]; omega
        · have HE := Lib.hid (show decide (xs = ys) = false from decide_eq_false fun h => he (by rw [h]))
          have g1 : (nth xs i != nth ys i) = true := by simpa using he
          clear he
          go_wp2_with fail
          go_quiet (fail)
          go_wp2_with fail
          go_ret
          exact ⟨by rw [HE.out]; rfl, (by repeat (first | exact Dr.refl _ | apply Dr.drewN))⟩
      · have HE := Lib.hid (show decide (xs = ys) = true from decide_eq_true (ext_nth _ _ (by rw [HX.out, HN.out]) fun j hj => HA.out j (by have := HX.out; omega)))
        go_wp2_with fail
        go_ret
        exact ⟨by rw [HE.out]; rfl, nd, rfl⟩
  · have HE := Lib.hid (show decide (xs = ys) = false from decide_eq_false fun h => hl (by rw [h]))
    have hne : ((xs.length : Int) != ys.length) = true := by simp; omega
    clear hl
    go_enter Tryz.func37, Tryz.ntmps37
    go_wp2_with fail
    go_ret
    exact ⟨by rw [HE.out]; rfl, .refl _⟩


def Room13 (xs : List Int) (w : World) (e : Ending) (w' : World) : Prop := ∃ g, e = .returned (.slice (some ⟨g, 0, none⟩) xs.length (xs.length + 9)) ∧ w.heap.size ≤ g ∧ Blk w' g .u8 5 (xs ++ mb9) ∧ Below w.heap.size w w'

set_option maxHeartbeats 4000000 in
set_option maxRecDepth 20000 in
theorem roomy13_c (a : Option Addr) (cap : Nat) (xs : List Int) (w : World) (hx : Sl .u8 w a cap xs) (hl : xs.length ≤ 140737488350000) :
    Calls Tryz.prog 4 #[.slice a xs.length cap] w (Room13 xs w) := by
  obtain ⟨n, hn⟩ : ∃ n, n = xs.length := ⟨_, rfl⟩
  have HN := Lib.hid hn
  rw [← hn] at hl ⊢
  clear hn
  go_enter Tryz.func4, Tryz.ntmps4
  go_wp2_with (at_make; refine wpList_make_blk _ rfl _ _ 22 rfl 5 .u8 1 Tryz.underlying22 info8a (n + 9) _ _ rfl rfl (by omega) (by omega) (by omega) (by omega) ?_)
  intro w1 hk1 hs1 hb1
  have hx1 := hx.below hb1
  obtain ⟨G, hG⟩ : ∃ G, G = w.heap.size := ⟨_, rfl⟩
  rw [← hG] at hk1 ⊢
  have hge : w.heap.size ≤ G := by omega
  clear hG hx hs1
  go_wp2_with (with_reducible refine wpList_copy_blk rfl _ _ 22 22 rfl 5 Tryz.underlying22 size8L _ G 0 _ _ _ _ _ rfl rfl .u8 _ xs hk1 hx1.cells HN.out.symm (fun _ _ => rfl) (by rw [List.length_replicate]; omega) ?_)
  intro w2 hk2 hg2 hs2
  have hb2 : Below w.heap.size w w2 := hb1.grown hg2 (by have := hb1.size; omega) (by simp; omega)
  have hk3 : Blk w2 G .u8 5 (xs ++ (List.replicate 0 165 ++ List.replicate (9 - 0) 0)) := by
    have e : xs.take (n + 9) ++ List.replicate (n + 9 - n) (0 : Int) = xs ++ (List.replicate 0 165 ++ List.replicate (9 - 0) 0) := by
      rw [List.take_of_length_le (by rw [← HN.out]; omega), show n + 9 - n = 9 by omega]
      rfl
    have h2 := hk2
    rw [← e]
    simpa [Nat.min_eq_left (show n ≤ n + 9 by omega)] using h2
  clear hk1 hk2 hg2 hb1 hs2 hx1
  go_wp2_with fail
  go_loopw [4] (fun t wr => ∃ j : Nat, j ≤ 9 ∧ t = .int .i64 ((n + j : Nat) : Int) ∧ Blk wr G .u8 5 (xs ++ (List.replicate j 165 ++ List.replicate (9 - j) 0)) ∧ Below w.heap.size w wr)
    (fun t _ => n + 9 - (intOf t).toNat)
  case atStart => exact ⟨0, by omega, by rw [Nat.add_zero], hk3, hb2⟩
  case round =>
    clear hk3 hb2
    obtain ⟨j, hj, rfl, hk, hb⟩ := hrel
    obtain ⟨i, hi⟩ : ∃ i, i = n + j := ⟨_, rfl⟩
    rw [← hi]
    have HI := Lib.hid hi
    by_cases hlt : j < 9
    · have ll : (xs ++ (List.replicate j (165 : Int) ++ List.replicate (9 - j) 0)).length = n + 9 := by simp [HN.out]; omega
      have c0 := hk.cell i (by rw [ll]; omega)
      have f0 := hk.free i
      have hs := hk.set i 165
      have fin : Hid ((xs ++ (List.replicate j 165 ++ List.replicate (9 - j) 0)).set i 165 = xs ++ (List.replicate (j + 1) 165 ++ List.replicate (9 - (j + 1)) 0)) := Lib.hid (by
        rw [List.set_append_right _ _ (by rw [← HN.out]; omega), ← HN.out, List.set_append_right _ _ (by rw [List.length_replicate]; omega), List.length_replicate, show i - n - j = 0 by omega,
          show 9 - j = (9 - (j + 1)) + 1 by omega, List.replicate_succ (n := 9 - (j + 1)), List.set_cons_zero, List.replicate_succ' (n := j), List.append_assoc]
        rfl)
      rw [fin.out] at hs
      have hb' := hb.setCell (p := ⟨G, i, none⟩) hge (.int .u8 165)
      have hin : (i : Int) < (n : Int) + 9 := by omega
      have hin2 : i < n + 9 := by omega
      have hd1 : decide ((i : Int) < (n : Int) + 9) = true := decide_eq_true hin
      clear hk hb ll hi
      go_wp2_with fail
      go_roundw
      case rel => exact ⟨j + 1, by omega, by have := HI.out; go_num, hs, hb'⟩
      case measure => have := HI.out; simp [intOf]; omega
    · obtain rfl : j = 9 := by omega
      have hkf : Blk wr G .u8 5 (xs ++ mb9) := by simpa [mb9] using hk
      have hin : ¬ (i : Int) < (n : Int) + 9 := by omega
      have hin2 : ¬ i < n + 9 := by omega
      have hd1 : decide ((i : Int) < (n : Int) + 9) = false := decide_eq_false hin
      have hcut := fun W => cutH (P := Tryz.prog) W 22 5 Tryz.underlying22 size8L (some ⟨G, 0, none⟩) (n + 9) (n + 9) n (by omega)
      clear hk hi
      go_wp2_with fail
      go_ret
      exact ⟨G, by rw [← HN.out]; first | done | rfl, hge, hkf, hb⟩

set_option maxHeartbeats 4000000 in
set_option maxRecDepth 20000 in
theorem spared13_c (g : Nat) (a : Option Addr) (cap' : Nat) (xs : List Int) (w : World) (hk : Blk w g .u8 5 (xs ++ mb9)) (hx : Sl .u8 w a cap' xs) (hl : xs.length ≤ 140737488350000) :
    Calls Tryz.prog 7 #[.slice (some ⟨g, 0, none⟩) xs.length (xs.length + 9), .slice a xs.length cap'] w (fun e w' => e = .returned (.bool true) ∧ Below w.heap.size w w') := by
  have cm := same13_c _ _ _ _ _ _ w (room_sl hk hl) hx
  rw [show decide (xs = xs) = true from decide_eq_true rfl] at cm
  have cells : ∀ j, j < 9 → w.cell? ⟨g, xs.length + j, none⟩ = some (.int .u8 165) := fun j hj => by
    rw [hk.cell (xs.length + j) (by rw [List.length_append, mb9_len]; omega), nth_append_right]
    unfold mb9
    rw [nth_replicate _ _ _ hj]
  have hcut := fun W => cutH (P := Tryz.prog) W 22 5 Tryz.underlying22 size8L (some ⟨g, 0, none⟩) xs.length (xs.length + 9) (xs.length + 9) (by omega)
  obtain ⟨n, hn⟩ : ∃ n, n = xs.length := ⟨_, rfl⟩
  rw [← hn] at cm hl hcut ⊢
  have e9 : ((n + 9 : Nat) : Int) = (n : Int) + 9 := by omega
  rw [e9] at hcut
  have CELLS := Lib.hid cells
  have HN := Lib.hid hn
  clear cells hn e9
  go_enter Tryz.func7, Tryz.ntmps7
  go_wp2_with fail
  go_loopw [6] (fun t wr => ∃ j : Nat, j ≤ 9 ∧ t = .int .i64 ((n + j : Nat) : Int) ∧ wr = w) (fun t _ => n + 9 - (intOf t).toNat)
  case atStart => exact ⟨0, by omega, by rw [Nat.add_zero], rfl⟩
  case round =>
    obtain ⟨j, hj, rfl, hww⟩ := hrel
    subst hww
    obtain ⟨i, hi⟩ : ∃ i, i = n + j := ⟨_, rfl⟩
    rw [← hi]
    have HI := Lib.hid hi
    by_cases hlt : j < 9
    · have c0 := CELLS.out j hlt
      rw [← HN.out, ← hi] at c0
      have hin : (i : Int) < (n : Int) + 9 := by omega
      have hin2 : i < n + 9 := by omega
      have hd1 : decide ((i : Int) < (n : Int) + 9) = true := decide_eq_true hin
      clear hi cm hcut
      go_wp2_with fail
      go_roundw
      case rel => exact ⟨j + 1, by omega, by have := HI.out; go_num, by trivial⟩
      case measure => have := HI.out; simp [intOf]; omega
    · obtain rfl : j = 9 := by omega
      have hin : ¬ (i : Int) < (n : Int) + 9 := by omega
      have hin2 : ¬ i < n + 9 := by omega
      have hd1 : decide ((i : Int) < (n : Int) + 9) = false := decide_eq_false hin
      clear hi
      go_wp2_with fail
      refine cm.mono ?_; rintro e w1 ⟨rfl, hb⟩
      go_wp2_with fail
      go_ret
      exact ⟨rfl, hb.b⟩

end Go.Proofs.YtlolkighnnedfaaGreatDoor
