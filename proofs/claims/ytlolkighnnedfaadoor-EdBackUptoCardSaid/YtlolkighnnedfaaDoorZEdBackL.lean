import Derived.Test.YtlolkighnnedfaaDoorZ39
/- signetlaw13.EdBack by its contract. (Printed by gen_edback.py.) -/
set_option linter.unusedVariables false
set_option linter.unusedSimpArgs false
namespace Go.Proofs.YtlolkighnnedfaaDoor
open Go.RowKit Go.Sg

set_option maxHeartbeats 4000000 in
set_option maxRecDepth 20000 in
theorem EdBack_c {a0 ax ay : Option Addr} {c0 cx cy : Nat} {x0 xx xy : List Int} {i1 : Bool} {w : World} (s0 : Sl .u8 w a0 c0 x0) (sx : Sl .u32 w ax cx xx) (sy : Sl .u32 w ay cy xy) (u0 : U8 x0) (ux : U32 xx) (uy : U32 xy) (hz : x0.length + xx.length + xy.length ≤ 1048576) (tP : TabAt w 0 limbP) (tD : TabAt w 3 limbD) (tI : TabAt w 4 limbI) (tL : TabAt w 2 limbL) (tB : BaseT w 1) (ht : ShaTabs w) :
    Calls Tryd.prog 8 #[.slice a0 x0.length c0, .agg #[.slice ax xx.length cx, .slice ay xy.length cy, .bool i1]] w (fun e w' => e = .returned (.bool true) ∧ Below w.heap.size w w') := by
  have nP : PtIn w (.agg #[.slice ax xx.length cx, .slice ay xy.length cy, .bool i1]) (val xx) (val xy) i1 := ⟨_, _, rfl, ⟨_, _, xx, rfl, sx, ux, rfl, by omega⟩, ⟨_, _, xy, rfl, sy, uy, rfl, by omega⟩⟩
  have d0 := fun W (h : Sl .u8 W a0 c0 x0) t1 t2 t3 => Decode_c (w := W) h u0 (by omega) t1 t2 t3
  have SA := fun (a : Option Addr) (c : Nat) W (hl : Sl .u8 W a c x0) (h : Below w.heap.size w W) => same13_c a a0 c c0 x0 x0 W hl (s0.below h)
  have TX := fun W (h : Below w.heap.size w W) => trim13_can (sx.below h) ux (by omega)
  have TY := fun W (h : Below w.heap.size w W) => trim13_can (sy.below h) uy (by omega)
  rw [show decide (x0 = x0) = true from decide_eq_true rfl] at SA
  have ue : U8 x0.reverse := u0.reverse (by omega)
  obtain ⟨X, hX⟩ : ∃ A, A = val xx := ⟨_, rfl⟩
  obtain ⟨Y, hY⟩ : ∃ R, R = val xy := ⟨_, rfl⟩
  rw [← hX, ← hY] at nP
  rw [← hX] at TX
  rw [← hY] at TY
  obtain ⟨n0, hn0⟩ : ∃ n, n = x0.length := ⟨_, rfl⟩
  obtain ⟨nx, hnx⟩ : ∃ n, n = xx.length := ⟨_, rfl⟩
  obtain ⟨ny, hny⟩ : ∃ n, n = xy.length := ⟨_, rfl⟩
  rw [← hnx, ← hny] at nP
  rw [← hnx] at TX
  rw [← hny] at TY
  rw [← hn0] at d0 SA
  rw [← hn0, ← hnx, ← hny]
  have HN0 := Lib.hid hn0
  clear hX hY hn0 hnx hny hz sx sy ux uy
  go_enter Tryd.func8, Tryd.ntmps8
  have hB := Below.refl w.heap.size w
  go_wp2_with (refine wpList_box_agg rfl 29 _ rfl [(.slice ax nx cx), (.slice ay ny cy), (.bool i1)] rfl ?_)
  intro w1 hk3 hb
  have hz_ := hB.size
  replace hB := hB.trans (hb.mono hB.size)
  clear hb
  obtain ⟨g3, hg_⟩ : ∃ g, g = w.heap.size := ⟨_, rfl⟩
  rw [← hg_] at hk3 ⊢
  have HG3 : Hid (w.heap.size ≤ g3) := Lib.hid (by rw [hg_]; exact hz_)
  clear hg_ hz_
  go_wp2_with fail
  refine (awake_c w1 (tP.below hB) (tD.below hB) (tI.below hB) (tL.below hB) (tB.below hB) (ht.below hB)).mono ?_; rintro e_ w2 ⟨rfl, hb⟩
  replace hB := hB.trans (hb.mono hB.size)
  replace hk3 := hk3.keep hb
  clear hb
  cases hd0 : decB x0 with
  | none =>
    have h_ := d0 _ (s0.below hB) (tP.below hB) (tD.below hB) (tI.below hB)
    rw [hd0] at h_
    unfold DecPost NoPt noPt at h_
    go_wp2_with fail
    refine (h_).mono ?_; rintro e_ w3 ⟨rfl, hb⟩
    replace hB := hB.trans (hb.mono hB.size)
    replace hk3 := hk3.keep hb
    clear hb h_
    go_wp2_with (refine wpList_alloc_agg rfl 29 rfl [(.slice none 0 0), (.slice none 0 0), (.bool false)] 3 (by kernel_rfl) ?_)
    intro w4 hk_ hbA_
    obtain ⟨g5, hg_⟩ : ∃ g, g = w3.heap.size := ⟨_, rfl⟩
    rw [← hg_] at hk_ ⊢
    have HGE_ : Hid (w3.heap.size ≤ g5) := Lib.hid (by rw [hg_]; exact Nat.le_refl _)
    clear hg_
    go_wp2_with (refine wpList_store_agg rfl 29 _ _ rfl g5 29 [(.slice none 0 0), (.slice none 0 0), (.bool false)] [(.slice none 0 0), (.slice none 0 0), (.bool false)] rfl rfl hk_ size_pt (by intro v_ hv_; simp only [List.mem_cons, List.not_mem_nil, or_false] at hv_; rcases hv_ with rfl | rfl | rfl <;> rfl) rfl ?_)
    intro w5 hn_ hgr_
    have hk5 := hn_
    have hb := hbA_.grown hgr_ hbA_.size (by intro k_ hk_; cases hk_; exact HGE_.out)
    clear hn_ hgr_ hk_ hbA_ HGE_
    replace hB := hB.trans (hb.mono hB.size)
    replace hk3 := hk3.keep hb
    clear hb
    clear hd0
    have q0_ := hk5.cell 0 rfl
    have q1_ := hk5.cell 1 rfl
    have q2_ := hk5.cell 2 rfl
    go_wp2_with fail
    refine (one_c ⟨_, _, rfl, CanAt.nil0 _, CanAt.nil0 _⟩ ⟨_, _, rfl, CanAt.nil0 _, CanAt.nil0 _⟩).mono ?_; rintro e_ w6 ⟨rfl, hb⟩
    clear q0_ q1_ q2_
    replace hB := hB.trans (hb.mono hB.size)
    replace hk3 := hk3.keep hb
    replace hk5 := hk5.keep hb
    clear hb
    cases hp : ptOf X Y i1 with
    | none =>
      have ON := Lib.hid (onB_none hp)
      clear hp
      have h_ := enc_no (nP.below hB) ON.out (tP.below hB) (tD.below hB)
      unfold EncNo at h_
      go_wp2_with (refine wpList_load_agg rfl 29 _ rfl g3 rfl _ [(.slice ax nx cx), (.slice ay ny cy), (.bool i1)] _ hk3 Tryd.underlying29 rfl size_pt ?_)
      refine (h_).mono ?_; rintro e_ w7 ⟨rfl, hb⟩
      replace hB := hB.trans (hb.mono hB.size)
      replace hk3 := hk3.keep hb
      replace hk5 := hk5.keep hb
      clear hb h_
      go_wp2_with fail
      refine wp_region_held_drew (S := fun W_ => Rw W_ g3 29 [(.slice ax nx cx), (.slice ay ny cy), (.bool i1)]) (by kernel_rfl) (hk3) (fun hS => ?_)
      have hb := below_drewN (Below.refl w7.heap.size w7) 1
      obtain ⟨w8, hw_⟩ : ∃ x, x = World.drew w7 := ⟨_, rfl⟩
      rw [show World.drewN w7 1 = w8 from hw_.symm] at hb
      rw [← hw_] at hS ⊢
      clear hw_
      replace hB := hB.trans (hb.mono hB.size)
      replace hk3 := hk3.keep hb
      replace hk5 := hk5.keep hb
      clear hb
      refine wpAnyH_take (i := 0) (v := ?_) rfl (by kernel_rfl) (by kernel_rfl) (by kernel_rfl) (fun _ _ _ h => h) (Or.inl ⟨by rfl, ?_⟩) hS ?_
      rotate_left
      · intro w _; go_simp; try with_reducible rfl
      simp only [List.getElem_toArray, List.getElem_cons_zero, List.getElem_cons_succ, Act.put, List.setIfInBounds_toArray, List.set_cons_zero, List.set_cons_succ]
      refine wpAnyH_take (i := 1) (v := ?_) rfl (by kernel_rfl) (by kernel_rfl) (by kernel_rfl) (fun _ _ _ h => h) (Or.inl ⟨by rfl, ?_⟩) hS ?_
      rotate_left
      · intro w _; go_simp; try with_reducible rfl
      simp only [List.getElem_toArray, List.getElem_cons_zero, List.getElem_cons_succ, Act.put, List.setIfInBounds_toArray, List.set_cons_zero, List.set_cons_succ]
      refine wpAnyH_take (i := 2) (v := ?_) rfl (by kernel_rfl) (by kernel_rfl) (by kernel_rfl) (fun _ _ _ h => h) (Or.inl ⟨by rfl, ?_⟩) hS ?_
      rotate_left
      · intro w _; go_simp; try with_reducible rfl
      simp only [List.getElem_toArray, List.getElem_cons_zero, List.getElem_cons_succ, Act.put, List.setIfInBounds_toArray, List.set_cons_zero, List.set_cons_succ]
      refine wpAnyH_take (i := 3) (v := ?_) rfl (by kernel_rfl) (by kernel_rfl) (by kernel_rfl) (fun _ _ _ h => h) (Or.inl ⟨by rfl, ?_⟩) hS ?_
      rotate_left
      · intro w _; go_simp; try with_reducible rfl
      simp only [List.getElem_toArray, List.getElem_cons_zero, List.getElem_cons_succ, Act.put, List.setIfInBounds_toArray, List.set_cons_zero, List.set_cons_succ]
      refine wpAnyH_take (i := 4) (v := ?_) rfl (by kernel_rfl) (by kernel_rfl) (by kernel_rfl) (fun _ _ _ h => h) (Or.inl ⟨by rfl, ?_⟩) hS ?_
      rotate_left
      · intro w _; go_simp; try with_reducible rfl
      simp only [List.getElem_toArray, List.getElem_cons_zero, List.getElem_cons_succ, Act.put, List.setIfInBounds_toArray, List.set_cons_zero, List.set_cons_succ]
      refine wpAnyH_take (i := 5) (v := ?_) rfl (by kernel_rfl) (by kernel_rfl) (by kernel_rfl) (fun _ _ _ h => h) (Or.inl ⟨by rfl, ?_⟩) hS ?_
      rotate_left
      · intro w _; go_simp; try with_reducible rfl
      simp only [List.getElem_toArray, List.getElem_cons_zero, List.getElem_cons_succ, Act.put, List.setIfInBounds_toArray, List.set_cons_zero, List.set_cons_succ]
      refine wpAnyH_take (i := 6) (v := ?_) rfl (by kernel_rfl) (by kernel_rfl) (by kernel_rfl) (fun _ _ _ h => h) (Or.inl ⟨by rfl, ?_⟩) hS ?_
      rotate_left
      · intro w _; go_simp; try with_reducible rfl
      simp only [List.getElem_toArray, List.getElem_cons_zero, List.getElem_cons_succ, Act.put, List.setIfInBounds_toArray, List.set_cons_zero, List.set_cons_succ]
      refine wpAnyH_take (i := 7) (v := ?_) rfl (by kernel_rfl) (by kernel_rfl) (by kernel_rfl) (fun _ _ _ h => h) (Or.inl ⟨by rfl, ?_⟩) hS ?_
      rotate_left
      · intro w _; go_simp; try with_reducible rfl
      simp only [List.getElem_toArray, List.getElem_cons_zero, List.getElem_cons_succ, Act.put, List.setIfInBounds_toArray, List.set_cons_zero, List.set_cons_succ]
      refine wpAnyH_take (i := 8) (v := ?_) rfl (by kernel_rfl) (by kernel_rfl) (by kernel_rfl) (fun _ _ _ h => h) (Or.inl ⟨by rfl, ?_⟩) hS ?_
      rotate_left
      · intro w _; go_simp; try with_reducible rfl
      simp only [List.getElem_toArray, List.getElem_cons_zero, List.getElem_cons_succ, Act.put, List.setIfInBounds_toArray, List.set_cons_zero, List.set_cons_succ]
      refine wpAnyH_take (i := 9) (v := ?_) rfl (by kernel_rfl) (by kernel_rfl) (by kernel_rfl) (fun _ _ _ h => h) (Or.inl ⟨by rfl, ?_⟩) hS ?_
      rotate_left
      · intro W_ hW_; have c_ := Rw.cell hW_ 0 rfl; go_simp; try with_reducible rfl
      simp only [List.getElem_toArray, List.getElem_cons_zero, List.getElem_cons_succ, Act.put, List.setIfInBounds_toArray, List.set_cons_zero, List.set_cons_succ]
      refine wpAnyH_take (i := 11) (v := ?_) rfl (by kernel_rfl) (by kernel_rfl) (by kernel_rfl) (fun _ _ _ h => h) (Or.inl ⟨by rfl, ?_⟩) hS ?_
      rotate_left
      · intro w _; go_simp; try with_reducible rfl
      simp only [List.getElem_toArray, List.getElem_cons_zero, List.getElem_cons_succ, Act.put, List.setIfInBounds_toArray, List.set_cons_zero, List.set_cons_succ]
      refine wpAnyH_take (i := 12) (v := ?_) rfl (by kernel_rfl) (by kernel_rfl) (by kernel_rfl) (fun _ _ _ h => h) (Or.inl ⟨by rfl, ?_⟩) hS ?_
      rotate_left
      · intro W_ hW_; have c_ := Rw.cell hW_ 1 rfl; go_simp; try with_reducible rfl
      simp only [List.getElem_toArray, List.getElem_cons_zero, List.getElem_cons_succ, Act.put, List.setIfInBounds_toArray, List.set_cons_zero, List.set_cons_succ]
      refine wpAnyH_take (i := 14) (v := ?_) rfl (by kernel_rfl) (by kernel_rfl) (by kernel_rfl) (fun _ _ _ h => h) (Or.inl ⟨by rfl, ?_⟩) hS ?_
      rotate_left
      · intro w _; go_simp; try with_reducible rfl
      simp only [List.getElem_toArray, List.getElem_cons_zero, List.getElem_cons_succ, Act.put, List.setIfInBounds_toArray, List.set_cons_zero, List.set_cons_succ]
      refine wpAnyH_take (i := 15) (v := ?_) rfl (by kernel_rfl) (by kernel_rfl) (by kernel_rfl) (fun _ _ _ h => h) (Or.inl ⟨by rfl, ?_⟩) hS ?_
      rotate_left
      · intro W_ hW_; have c_ := Rw.cell hW_ 2 rfl; go_simp; try with_reducible rfl
      simp only [List.getElem_toArray, List.getElem_cons_zero, List.getElem_cons_succ, Act.put, List.setIfInBounds_toArray, List.set_cons_zero, List.set_cons_succ]
      refine wpAnyH_ready (rs := [10]) (by kernel_rfl) (by simp) ?_
      refine AllReadyH.cons rfl (fun K hK => ?_) AllReadyH.nil
      rw [if_pos (by rfl)]
      simp only [List.getElem_toArray, List.getElem_cons_zero, List.getElem_cons_succ]
      go_simp
      refine (TX _ hB).mono ?_; rintro e_ w_ ⟨v65, rfl, c65, rfl⟩
      dsimp only
      refine hK.out _ _ hS (fun hS => ?_)
      refine wpAnyH_ready (rs := [13]) (by kernel_rfl) (by simp) ?_
      refine AllReadyH.cons rfl (fun K hK => ?_) AllReadyH.nil
      rw [if_pos (by rfl)]
      simp only [List.getElem_toArray, List.getElem_cons_zero, List.getElem_cons_succ]
      go_simp
      refine (TY _ hB).mono ?_; rintro e_ w_ ⟨v68, rfl, c68, rfl⟩
      dsimp only
      refine hK.out _ _ hS (fun hS => ?_)
      obtain ⟨a65_, n65_, p65_, rfl⟩ := c65.sliced
      obtain ⟨a68_, n68_, p68_, rfl⟩ := c68.sliced
      refine wpAnyH_ready (rs := [16]) (by kernel_rfl) (by simp) ?_
      refine AllReadyH.cons rfl (fun K hK => ?_) AllReadyH.nil
      rw [if_pos (by rfl)]
      simp only [List.getElem_toArray, List.getElem_cons_zero, List.getElem_cons_succ]
      go_simp
      refine hK.out _ _ hS (fun hS => ?_)
      have h_ := on13_c (inf := i1) c65 c68
      rw [ON.out] at h_
      refine wpAnyH_ready (rs := [17]) (by kernel_rfl) (by simp) ?_
      refine AllReadyH.cons rfl (fun K hK => ?_) AllReadyH.nil
      rw [if_pos (by rfl)]
      simp only [List.getElem_toArray, List.getElem_cons_zero, List.getElem_cons_succ]
      go_simp
      refine (h_).mono ?_; rintro e_ w9 ⟨rfl, hb⟩
      dsimp only
      replace hB := hB.trans (hb.mono hB.size)
      replace hk3 := hk3.keep hb
      replace hk5 := hk5.keep hb
      clear hb h_
      refine hK.out _ _ hk3 (fun hS => ?_)
      refine wpAnyH_ready (rs := [18]) (by kernel_rfl) (by simp) ?_
      refine AllReadyH.cons rfl (fun K hK => ?_) AllReadyH.nil
      rw [if_pos (by rfl)]
      simp only [List.getElem_toArray, List.getElem_cons_zero, List.getElem_cons_succ]
      go_simp
      refine hK.out _ _ hS (fun hS => ?_)
      refine wpAnyH_ready (rs := [19]) (by kernel_rfl) (by simp) ?_
      refine AllReadyH.cons rfl (fun K hK => ?_) AllReadyH.nil
      rw [if_pos (by rfl)]
      simp only [List.getElem_toArray, List.getElem_cons_zero, List.getElem_cons_succ]
      go_simp
      refine hK.out _ _ hS (fun hS => ?_)
      refine wpAnyH_ready (rs := [20]) (by kernel_rfl) (by simp) ?_
      refine AllReadyH.cons rfl (fun K hK => ?_) AllReadyH.nil
      rw [if_pos (by rfl)]
      simp only [List.getElem_toArray, List.getElem_cons_zero, List.getElem_cons_succ]
      go_simp
      refine hK.out _ _ hS (fun hS => ?_)
      refine wpAnyH_done (by kernel_rfl) ?_ _
      clear hS
      go_wp2_with fail
      go_ret
      exact ⟨by first | done | rfl | simp, hB⟩
    | some Q =>
      obtain ⟨rfl, rfl, rfl, oQ⟩ := ptOf_some hp
      have OQ := Lib.hid oQ
      clear hp oQ
      have h_ := enc_ok (Q := Q) (nP.below hB) OQ.out (tP.below hB) (tD.below hB)
      unfold EncOk at h_
      obtain ⟨E, hE_⟩ : ∃ E, E = encB Q := ⟨_, rfl⟩
      rw [← hE_] at h_
      have HE := Lib.hid hE_
      have LE : Hid (E.length = 32) := Lib.hid (by rw [hE_]; exact encB_len _)
      have UE : U8 E := by rw [hE_]; exact encB_u8 _
      clear hE_
      go_wp2_with (refine wpList_load_agg rfl 29 _ rfl g3 rfl _ [(.slice ax nx cx), (.slice ay ny cy), (.bool false)] _ hk3 Tryd.underlying29 rfl size_pt ?_)
      refine (h_).mono ?_; rintro e_ w7 ⟨v50, rfl, hn, hb⟩
      obtain ⟨eE, qE, rfl, sE⟩ := hn.sl
      clear hn
      replace hB := hB.trans (hb.mono hB.size)
      replace hk3 := hk3.keep hb
      replace hk5 := hk5.keep hb
      clear hb h_
      have h_ := Decode_c sE UE (by rw [LE.out]; omega) (tP.below hB) (tD.below hB) (tI.below hB)
      rw [show decB E = some Q from by rw [HE.out]; exact decB_encB OQ.out] at h_
      go_wp2_with fail
      refine (h_).mono ?_; rintro e_ w8 ⟨v77, rfl, hn, hb⟩
      obtain ⟨v77x, v77y, rfl, h1_, h2_, _⟩ := hn
      have c77x := h1_.fp
      have c77y := h2_.fp
      obtain ⟨av77x, nv77x, pv77x, rfl⟩ := c77x.sliced
      obtain ⟨av77y, nv77y, pv77y, rfl⟩ := c77y.sliced
      clear h1_ h2_
      replace hB := hB.trans (hb.mono hB.size)
      replace hk3 := hk3.keep hb
      replace hk5 := hk5.keep hb
      replace sE := sE.below hb
      clear hb h_
      go_wp2_with (refine wpList_alloc_agg rfl 29 rfl [(.slice none 0 0), (.slice none 0 0), (.bool false)] 3 (by kernel_rfl) ?_)
      intro w9 hk_ hbA_
      obtain ⟨g11, hg_⟩ : ∃ g, g = w8.heap.size := ⟨_, rfl⟩
      rw [← hg_] at hk_ ⊢
      have HGE_ : Hid (w8.heap.size ≤ g11) := Lib.hid (by rw [hg_]; exact Nat.le_refl _)
      clear hg_
      go_wp2_with (refine wpList_store_agg rfl 29 _ _ rfl g11 29 [(.slice none 0 0), (.slice none 0 0), (.bool false)] [(.slice av77x nv77x pv77x), (.slice av77y nv77y pv77y), (.bool false)] rfl rfl hk_ size_pt (by intro v_ hv_; simp only [List.mem_cons, List.not_mem_nil, or_false] at hv_; rcases hv_ with rfl | rfl | rfl <;> first | rfl | exact c77x.one_cell | exact c77y.one_cell) rfl ?_)
      intro w10 hn_ hgr_
      have hk11 := hn_
      have hb := hbA_.grown hgr_ hbA_.size (by intro k_ hk_; cases hk_; exact HGE_.out)
      clear hn_ hgr_ hk_ hbA_ HGE_
      replace hB := hB.trans (hb.mono hB.size)
      replace hk3 := hk3.keep hb
      replace hk5 := hk5.keep hb
      replace sE := sE.below hb
      replace c77x := c77x.below hb
      replace c77y := c77y.below hb
      clear hb
      go_wp2_with fail
      refine wp_region_held_drew (S := fun W_ => Rw W_ g3 29 [(.slice ax nx cx), (.slice ay ny cy), (.bool false)] ∧ Rw W_ g11 29 [(.slice av77x nv77x pv77x), (.slice av77y nv77y pv77y), (.bool false)]) (by kernel_rfl) (⟨hk3, hk11⟩) (fun hS => ?_)
      have hb := below_drewN (Below.refl w10.heap.size w10) 1
      obtain ⟨w11, hw_⟩ : ∃ x, x = World.drew w10 := ⟨_, rfl⟩
      rw [show World.drewN w10 1 = w11 from hw_.symm] at hb
      rw [← hw_] at hS ⊢
      clear hw_
      replace hB := hB.trans (hb.mono hB.size)
      replace hk3 := hk3.keep hb
      replace hk5 := hk5.keep hb
      replace sE := sE.below hb
      replace c77x := c77x.below hb
      replace c77y := c77y.below hb
      replace hk11 := hk11.keep hb
      clear hb
      refine wpAnyH_take (i := 0) (v := ?_) rfl (by kernel_rfl) (by kernel_rfl) (by kernel_rfl) (fun _ _ _ h => h) (Or.inl ⟨by rfl, ?_⟩) hS ?_
      rotate_left
      · intro w _; go_simp; try with_reducible rfl
      simp only [List.getElem_toArray, List.getElem_cons_zero, List.getElem_cons_succ, Act.put, List.setIfInBounds_toArray, List.set_cons_zero, List.set_cons_succ]
      refine wpAnyH_take (i := 1) (v := ?_) rfl (by kernel_rfl) (by kernel_rfl) (by kernel_rfl) (fun _ _ _ h => h) (Or.inl ⟨by rfl, ?_⟩) hS ?_
      rotate_left
      · intro w _; go_simp; try with_reducible rfl
      simp only [List.getElem_toArray, List.getElem_cons_zero, List.getElem_cons_succ, Act.put, List.setIfInBounds_toArray, List.set_cons_zero, List.set_cons_succ]
      refine wpAnyH_take (i := 2) (v := ?_) rfl (by kernel_rfl) (by kernel_rfl) (by kernel_rfl) (fun _ _ _ h => h) (Or.inl ⟨by rfl, ?_⟩) hS ?_
      rotate_left
      · intro w _; go_simp; try with_reducible rfl
      simp only [List.getElem_toArray, List.getElem_cons_zero, List.getElem_cons_succ, Act.put, List.setIfInBounds_toArray, List.set_cons_zero, List.set_cons_succ]
      refine wpAnyH_take (i := 3) (v := .agg #[(.slice av77x nv77x pv77x), (.slice av77y nv77y pv77y), (.bool false)]) rfl (by kernel_rfl) (by kernel_rfl) (by kernel_rfl) (fun _ _ _ h => h) (yieldsIf_load_mid (by rfl) 29 _ rfl g11 0 rfl [(.slice av77x nv77x pv77x), (.slice av77y nv77y pv77y), (.bool false)] _ (fun W_ hW_ => Rw.range (hW_.2) 0 _ fun j_ v_ hv_ => by rwa [Nat.zero_add]) Tryd.underlying29 rfl size_pt) hS ?_
      simp only [List.getElem_toArray, List.getElem_cons_zero, List.getElem_cons_succ, Act.put, List.setIfInBounds_toArray, List.set_cons_zero, List.set_cons_succ]
      refine wpAnyH_take (i := 4) (v := ?_) rfl (by kernel_rfl) (by kernel_rfl) (by kernel_rfl) (fun _ _ _ h => h) (Or.inl ⟨by rfl, ?_⟩) hS ?_
      rotate_left
      · intro w _; go_simp; try with_reducible rfl
      simp only [List.getElem_toArray, List.getElem_cons_zero, List.getElem_cons_succ, Act.put, List.setIfInBounds_toArray, List.set_cons_zero, List.set_cons_succ]
      refine wpAnyH_take (i := 5) (v := ?_) rfl (by kernel_rfl) (by kernel_rfl) (by kernel_rfl) (fun _ _ _ h => h) (Or.inl ⟨by rfl, ?_⟩) hS ?_
      rotate_left
      · intro W_ hW_; have c_ := Rw.cell (hW_.1) 0 rfl; go_simp; try with_reducible rfl
      simp only [List.getElem_toArray, List.getElem_cons_zero, List.getElem_cons_succ, Act.put, List.setIfInBounds_toArray, List.set_cons_zero, List.set_cons_succ]
      refine wpAnyH_take (i := 7) (v := ?_) rfl (by kernel_rfl) (by kernel_rfl) (by kernel_rfl) (fun _ _ _ h => h) (Or.inl ⟨by rfl, ?_⟩) hS ?_
      rotate_left
      · intro w _; go_simp; try with_reducible rfl
      simp only [List.getElem_toArray, List.getElem_cons_zero, List.getElem_cons_succ, Act.put, List.setIfInBounds_toArray, List.set_cons_zero, List.set_cons_succ]
      refine wpAnyH_take (i := 8) (v := ?_) rfl (by kernel_rfl) (by kernel_rfl) (by kernel_rfl) (fun _ _ _ h => h) (Or.inl ⟨by rfl, ?_⟩) hS ?_
      rotate_left
      · intro W_ hW_; have c_ := Rw.cell (hW_.1) 1 rfl; go_simp; try with_reducible rfl
      simp only [List.getElem_toArray, List.getElem_cons_zero, List.getElem_cons_succ, Act.put, List.setIfInBounds_toArray, List.set_cons_zero, List.set_cons_succ]
      refine wpAnyH_ready (rs := [6]) (by kernel_rfl) (by simp) ?_
      refine AllReadyH.cons rfl (fun K hK => ?_) AllReadyH.nil
      rw [if_pos (by rfl)]
      simp only [List.getElem_toArray, List.getElem_cons_zero, List.getElem_cons_succ]
      go_simp
      refine (TX _ hB).mono ?_; rintro e_ w_ ⟨v86, rfl, c86, rfl⟩
      dsimp only
      refine hK.out _ _ hS (fun hS => ?_)
      refine wpAnyH_ready (rs := [9]) (by kernel_rfl) (by simp) ?_
      refine AllReadyH.cons rfl (fun K hK => ?_) AllReadyH.nil
      rw [if_pos (by rfl)]
      simp only [List.getElem_toArray, List.getElem_cons_zero, List.getElem_cons_succ]
      go_simp
      refine (TY _ hB).mono ?_; rintro e_ w_ ⟨v89, rfl, c89, rfl⟩
      dsimp only
      refine hK.out _ _ hS (fun hS => ?_)
      obtain ⟨a86_, n86_, p86_, rfl⟩ := c86.sliced
      obtain ⟨a89_, n89_, p89_, rfl⟩ := c89.sliced
      refine wpAnyH_ready (rs := [10]) (by kernel_rfl) (by simp) ?_
      refine AllReadyH.cons rfl (fun K hK => ?_) AllReadyH.nil
      rw [if_pos (by rfl)]
      simp only [List.getElem_toArray, List.getElem_cons_zero, List.getElem_cons_succ]
      go_simp
      refine hK.out _ _ hS (fun hS => ?_)
      have h_ := one_c ⟨_, _, rfl, c77x, c77y⟩ ⟨_, _, rfl, c86, c89⟩
      rw [show decide (Q.1.val = Q.1.val ∧ Q.2.val = Q.2.val) = true from decide_eq_true ⟨rfl, rfl⟩] at h_
      refine wpAnyH_ready (rs := [11]) (by kernel_rfl) (by simp) ?_
      refine AllReadyH.cons rfl (fun K hK => ?_) AllReadyH.nil
      rw [if_pos (by rfl)]
      simp only [List.getElem_toArray, List.getElem_cons_zero, List.getElem_cons_succ]
      go_simp
      refine (h_).mono ?_; rintro e_ w12 ⟨rfl, hb⟩
      dsimp only
      replace hB := hB.trans (hb.mono hB.size)
      replace hk3 := hk3.keep hb
      replace hk5 := hk5.keep hb
      replace sE := sE.below hb
      replace c77x := c77x.below hb
      replace c77y := c77y.below hb
      replace hk11 := hk11.keep hb
      clear hb h_
      refine hK.out _ _ ⟨hk3, hk11⟩ (fun hS => ?_)
      refine wpAnyH_ready (rs := [12]) (by kernel_rfl) (by simp) ?_
      refine AllReadyH.cons rfl (fun K hK => ?_) AllReadyH.nil
      rw [if_pos (by rfl)]
      simp only [List.getElem_toArray, List.getElem_cons_zero, List.getElem_cons_succ]
      go_simp
      refine hK.out _ _ hS (fun hS => ?_)
      refine wpAnyH_ready (rs := [13]) (by kernel_rfl) (by simp) ?_
      refine AllReadyH.cons rfl (fun K hK => ?_) AllReadyH.nil
      rw [if_pos (by rfl)]
      simp only [List.getElem_toArray, List.getElem_cons_zero, List.getElem_cons_succ]
      go_simp
      refine hK.out _ _ hS (fun hS => ?_)
      refine wpAnyH_done (by kernel_rfl) ?_ _
      clear hS
      go_wp2_with fail
      go_ret
      exact ⟨by first | done | rfl | simp, hB⟩
  | some P =>
    have OP := Lib.hid (decB_on hd0).2
    have h_ := d0 _ (s0.below hB) (tP.below hB) (tD.below hB) (tI.below hB)
    rw [hd0] at h_
    go_wp2_with fail
    refine (h_).mono ?_; rintro e_ w3 ⟨v17, rfl, hn, hb⟩
    obtain ⟨v17x, v17y, rfl, h1_, h2_, _⟩ := hn
    have c17x := h1_.fp
    have c17y := h2_.fp
    obtain ⟨av17x, nv17x, pv17x, rfl⟩ := c17x.sliced
    obtain ⟨av17y, nv17y, pv17y, rfl⟩ := c17y.sliced
    clear h1_ h2_
    replace hB := hB.trans (hb.mono hB.size)
    replace hk3 := hk3.keep hb
    clear hb h_
    go_wp2_with (refine wpList_alloc_agg rfl 29 rfl [(.slice none 0 0), (.slice none 0 0), (.bool false)] 3 (by kernel_rfl) ?_)
    intro w4 hk_ hbA_
    obtain ⟨g5, hg_⟩ : ∃ g, g = w3.heap.size := ⟨_, rfl⟩
    rw [← hg_] at hk_ ⊢
    have HGE_ : Hid (w3.heap.size ≤ g5) := Lib.hid (by rw [hg_]; exact Nat.le_refl _)
    clear hg_
    go_wp2_with (refine wpList_store_agg rfl 29 _ _ rfl g5 29 [(.slice none 0 0), (.slice none 0 0), (.bool false)] [(.slice av17x nv17x pv17x), (.slice av17y nv17y pv17y), (.bool false)] rfl rfl hk_ size_pt (by intro v_ hv_; simp only [List.mem_cons, List.not_mem_nil, or_false] at hv_; rcases hv_ with rfl | rfl | rfl <;> first | rfl | exact c17x.one_cell | exact c17y.one_cell) rfl ?_)
    intro w5 hn_ hgr_
    have hk5 := hn_
    have hb := hbA_.grown hgr_ hbA_.size (by intro k_ hk_; cases hk_; exact HGE_.out)
    clear hn_ hgr_ hk_ hbA_ HGE_
    replace hB := hB.trans (hb.mono hB.size)
    replace hk3 := hk3.keep hb
    replace c17x := c17x.below hb
    replace c17y := c17y.below hb
    clear hb
    have h_ := enc_ok ⟨_, _, rfl, c17x.num, c17y.num⟩ OP.out (tP.below hB) (tD.below hB)
    unfold EncOk at h_
    rw [encB_decB ue hd0] at h_
    go_wp2_with (refine wpList_load_agg rfl 29 _ rfl g5 rfl _ [(.slice av17x nv17x pv17x), (.slice av17y nv17y pv17y), (.bool false)] _ hk5 Tryd.underlying29 rfl size_pt ?_)
    refine (h_).mono ?_; rintro e_ w6 ⟨v24, rfl, hn, hb⟩
    obtain ⟨eF, qF, rfl, sF⟩ := hn.sl
    clear hn
    rw [← HN0.out]
    replace hB := hB.trans (hb.mono hB.size)
    replace hk3 := hk3.keep hb
    replace c17x := c17x.below hb
    replace c17y := c17y.below hb
    replace hk5 := hk5.keep hb
    clear hb h_
    clear hd0
    go_wp2_with fail
    refine (SA _ _ _ sF hB).mono ?_; rintro e_ w7 ⟨rfl, hd_⟩
    have hb := hd_.b
    replace hB := hB.trans (hb.mono hB.size)
    replace hk3 := hk3.keep hb
    replace c17x := c17x.below hb
    replace c17y := c17y.below hb
    replace hk5 := hk5.keep hb
    replace sF := sF.below hb
    clear hb hd_
    have h_ := on13_c (inf := false) c17x c17y
    rw [onB_of OP.out] at h_
    have q0_ := hk5.cell 0 rfl
    have q1_ := hk5.cell 1 rfl
    have q2_ := hk5.cell 2 rfl
    go_wp2_with fail
    refine (h_).mono ?_; rintro e_ w8 ⟨rfl, hb⟩
    clear q0_ q1_ q2_
    replace hB := hB.trans (hb.mono hB.size)
    replace hk3 := hk3.keep hb
    replace c17x := c17x.below hb
    replace c17y := c17y.below hb
    replace hk5 := hk5.keep hb
    replace sF := sF.below hb
    clear hb h_
    cases hp : ptOf X Y i1 with
    | none =>
      have ON := Lib.hid (onB_none hp)
      clear hp
      have h_ := enc_no (nP.below hB) ON.out (tP.below hB) (tD.below hB)
      unfold EncNo at h_
      go_wp2_with (refine wpList_load_agg rfl 29 _ rfl g3 rfl _ [(.slice ax nx cx), (.slice ay ny cy), (.bool i1)] _ hk3 Tryd.underlying29 rfl size_pt ?_)
      refine (h_).mono ?_; rintro e_ w9 ⟨rfl, hb⟩
      replace hB := hB.trans (hb.mono hB.size)
      replace hk3 := hk3.keep hb
      replace c17x := c17x.below hb
      replace c17y := c17y.below hb
      replace hk5 := hk5.keep hb
      replace sF := sF.below hb
      clear hb h_
      go_wp2_with fail
      refine wp_region_held_drew (S := fun W_ => Rw W_ g3 29 [(.slice ax nx cx), (.slice ay ny cy), (.bool i1)]) (by kernel_rfl) (hk3) (fun hS => ?_)
      have hb := below_drewN (Below.refl w9.heap.size w9) 1
      obtain ⟨w10, hw_⟩ : ∃ x, x = World.drew w9 := ⟨_, rfl⟩
      rw [show World.drewN w9 1 = w10 from hw_.symm] at hb
      rw [← hw_] at hS ⊢
      clear hw_
      replace hB := hB.trans (hb.mono hB.size)
      replace hk3 := hk3.keep hb
      replace c17x := c17x.below hb
      replace c17y := c17y.below hb
      replace hk5 := hk5.keep hb
      replace sF := sF.below hb
      clear hb
      refine wpAnyH_take (i := 0) (v := ?_) rfl (by kernel_rfl) (by kernel_rfl) (by kernel_rfl) (fun _ _ _ h => h) (Or.inl ⟨by rfl, ?_⟩) hS ?_
      rotate_left
      · intro w _; go_simp; try with_reducible rfl
      simp only [List.getElem_toArray, List.getElem_cons_zero, List.getElem_cons_succ, Act.put, List.setIfInBounds_toArray, List.set_cons_zero, List.set_cons_succ]
      refine wpAnyH_take (i := 1) (v := ?_) rfl (by kernel_rfl) (by kernel_rfl) (by kernel_rfl) (fun _ _ _ h => h) (Or.inl ⟨by rfl, ?_⟩) hS ?_
      rotate_left
      · intro w _; go_simp; try with_reducible rfl
      simp only [List.getElem_toArray, List.getElem_cons_zero, List.getElem_cons_succ, Act.put, List.setIfInBounds_toArray, List.set_cons_zero, List.set_cons_succ]
      refine wpAnyH_take (i := 2) (v := ?_) rfl (by kernel_rfl) (by kernel_rfl) (by kernel_rfl) (fun _ _ _ h => h) (Or.inl ⟨by rfl, ?_⟩) hS ?_
      rotate_left
      · intro w _; go_simp; try with_reducible rfl
      simp only [List.getElem_toArray, List.getElem_cons_zero, List.getElem_cons_succ, Act.put, List.setIfInBounds_toArray, List.set_cons_zero, List.set_cons_succ]
      refine wpAnyH_take (i := 3) (v := ?_) rfl (by kernel_rfl) (by kernel_rfl) (by kernel_rfl) (fun _ _ _ h => h) (Or.inl ⟨by rfl, ?_⟩) hS ?_
      rotate_left
      · intro w _; go_simp; try with_reducible rfl
      simp only [List.getElem_toArray, List.getElem_cons_zero, List.getElem_cons_succ, Act.put, List.setIfInBounds_toArray, List.set_cons_zero, List.set_cons_succ]
      refine wpAnyH_take (i := 4) (v := ?_) rfl (by kernel_rfl) (by kernel_rfl) (by kernel_rfl) (fun _ _ _ h => h) (Or.inl ⟨by rfl, ?_⟩) hS ?_
      rotate_left
      · intro w _; go_simp; try with_reducible rfl
      simp only [List.getElem_toArray, List.getElem_cons_zero, List.getElem_cons_succ, Act.put, List.setIfInBounds_toArray, List.set_cons_zero, List.set_cons_succ]
      refine wpAnyH_take (i := 5) (v := ?_) rfl (by kernel_rfl) (by kernel_rfl) (by kernel_rfl) (fun _ _ _ h => h) (Or.inl ⟨by rfl, ?_⟩) hS ?_
      rotate_left
      · intro w _; go_simp; try with_reducible rfl
      simp only [List.getElem_toArray, List.getElem_cons_zero, List.getElem_cons_succ, Act.put, List.setIfInBounds_toArray, List.set_cons_zero, List.set_cons_succ]
      refine wpAnyH_take (i := 6) (v := ?_) rfl (by kernel_rfl) (by kernel_rfl) (by kernel_rfl) (fun _ _ _ h => h) (Or.inl ⟨by rfl, ?_⟩) hS ?_
      rotate_left
      · intro w _; go_simp; try with_reducible rfl
      simp only [List.getElem_toArray, List.getElem_cons_zero, List.getElem_cons_succ, Act.put, List.setIfInBounds_toArray, List.set_cons_zero, List.set_cons_succ]
      refine wpAnyH_take (i := 7) (v := ?_) rfl (by kernel_rfl) (by kernel_rfl) (by kernel_rfl) (fun _ _ _ h => h) (Or.inl ⟨by rfl, ?_⟩) hS ?_
      rotate_left
      · intro w _; go_simp; try with_reducible rfl
      simp only [List.getElem_toArray, List.getElem_cons_zero, List.getElem_cons_succ, Act.put, List.setIfInBounds_toArray, List.set_cons_zero, List.set_cons_succ]
      refine wpAnyH_take (i := 8) (v := ?_) rfl (by kernel_rfl) (by kernel_rfl) (by kernel_rfl) (fun _ _ _ h => h) (Or.inl ⟨by rfl, ?_⟩) hS ?_
      rotate_left
      · intro w _; go_simp; try with_reducible rfl
      simp only [List.getElem_toArray, List.getElem_cons_zero, List.getElem_cons_succ, Act.put, List.setIfInBounds_toArray, List.set_cons_zero, List.set_cons_succ]
      refine wpAnyH_take (i := 9) (v := ?_) rfl (by kernel_rfl) (by kernel_rfl) (by kernel_rfl) (fun _ _ _ h => h) (Or.inl ⟨by rfl, ?_⟩) hS ?_
      rotate_left
      · intro W_ hW_; have c_ := Rw.cell hW_ 0 rfl; go_simp; try with_reducible rfl
      simp only [List.getElem_toArray, List.getElem_cons_zero, List.getElem_cons_succ, Act.put, List.setIfInBounds_toArray, List.set_cons_zero, List.set_cons_succ]
      refine wpAnyH_take (i := 11) (v := ?_) rfl (by kernel_rfl) (by kernel_rfl) (by kernel_rfl) (fun _ _ _ h => h) (Or.inl ⟨by rfl, ?_⟩) hS ?_
      rotate_left
      · intro w _; go_simp; try with_reducible rfl
      simp only [List.getElem_toArray, List.getElem_cons_zero, List.getElem_cons_succ, Act.put, List.setIfInBounds_toArray, List.set_cons_zero, List.set_cons_succ]
      refine wpAnyH_take (i := 12) (v := ?_) rfl (by kernel_rfl) (by kernel_rfl) (by kernel_rfl) (fun _ _ _ h => h) (Or.inl ⟨by rfl, ?_⟩) hS ?_
      rotate_left
      · intro W_ hW_; have c_ := Rw.cell hW_ 1 rfl; go_simp; try with_reducible rfl
      simp only [List.getElem_toArray, List.getElem_cons_zero, List.getElem_cons_succ, Act.put, List.setIfInBounds_toArray, List.set_cons_zero, List.set_cons_succ]
      refine wpAnyH_take (i := 14) (v := ?_) rfl (by kernel_rfl) (by kernel_rfl) (by kernel_rfl) (fun _ _ _ h => h) (Or.inl ⟨by rfl, ?_⟩) hS ?_
      rotate_left
      · intro w _; go_simp; try with_reducible rfl
      simp only [List.getElem_toArray, List.getElem_cons_zero, List.getElem_cons_succ, Act.put, List.setIfInBounds_toArray, List.set_cons_zero, List.set_cons_succ]
      refine wpAnyH_take (i := 15) (v := ?_) rfl (by kernel_rfl) (by kernel_rfl) (by kernel_rfl) (fun _ _ _ h => h) (Or.inl ⟨by rfl, ?_⟩) hS ?_
      rotate_left
      · intro W_ hW_; have c_ := Rw.cell hW_ 2 rfl; go_simp; try with_reducible rfl
      simp only [List.getElem_toArray, List.getElem_cons_zero, List.getElem_cons_succ, Act.put, List.setIfInBounds_toArray, List.set_cons_zero, List.set_cons_succ]
      refine wpAnyH_ready (rs := [10]) (by kernel_rfl) (by simp) ?_
      refine AllReadyH.cons rfl (fun K hK => ?_) AllReadyH.nil
      rw [if_pos (by rfl)]
      simp only [List.getElem_toArray, List.getElem_cons_zero, List.getElem_cons_succ]
      go_simp
      refine (TX _ hB).mono ?_; rintro e_ w_ ⟨v65, rfl, c65, rfl⟩
      dsimp only
      refine hK.out _ _ hS (fun hS => ?_)
      refine wpAnyH_ready (rs := [13]) (by kernel_rfl) (by simp) ?_
      refine AllReadyH.cons rfl (fun K hK => ?_) AllReadyH.nil
      rw [if_pos (by rfl)]
      simp only [List.getElem_toArray, List.getElem_cons_zero, List.getElem_cons_succ]
      go_simp
      refine (TY _ hB).mono ?_; rintro e_ w_ ⟨v68, rfl, c68, rfl⟩
      dsimp only
      refine hK.out _ _ hS (fun hS => ?_)
      obtain ⟨a65_, n65_, p65_, rfl⟩ := c65.sliced
      obtain ⟨a68_, n68_, p68_, rfl⟩ := c68.sliced
      refine wpAnyH_ready (rs := [16]) (by kernel_rfl) (by simp) ?_
      refine AllReadyH.cons rfl (fun K hK => ?_) AllReadyH.nil
      rw [if_pos (by rfl)]
      simp only [List.getElem_toArray, List.getElem_cons_zero, List.getElem_cons_succ]
      go_simp
      refine hK.out _ _ hS (fun hS => ?_)
      have h_ := on13_c (inf := i1) c65 c68
      rw [ON.out] at h_
      refine wpAnyH_ready (rs := [17]) (by kernel_rfl) (by simp) ?_
      refine AllReadyH.cons rfl (fun K hK => ?_) AllReadyH.nil
      rw [if_pos (by rfl)]
      simp only [List.getElem_toArray, List.getElem_cons_zero, List.getElem_cons_succ]
      go_simp
      refine (h_).mono ?_; rintro e_ w11 ⟨rfl, hb⟩
      dsimp only
      replace hB := hB.trans (hb.mono hB.size)
      replace hk3 := hk3.keep hb
      replace c17x := c17x.below hb
      replace c17y := c17y.below hb
      replace hk5 := hk5.keep hb
      replace sF := sF.below hb
      clear hb h_
      refine hK.out _ _ hk3 (fun hS => ?_)
      refine wpAnyH_ready (rs := [18]) (by kernel_rfl) (by simp) ?_
      refine AllReadyH.cons rfl (fun K hK => ?_) AllReadyH.nil
      rw [if_pos (by rfl)]
      simp only [List.getElem_toArray, List.getElem_cons_zero, List.getElem_cons_succ]
      go_simp
      refine hK.out _ _ hS (fun hS => ?_)
      refine wpAnyH_ready (rs := [19]) (by kernel_rfl) (by simp) ?_
      refine AllReadyH.cons rfl (fun K hK => ?_) AllReadyH.nil
      rw [if_pos (by rfl)]
      simp only [List.getElem_toArray, List.getElem_cons_zero, List.getElem_cons_succ]
      go_simp
      refine hK.out _ _ hS (fun hS => ?_)
      refine wpAnyH_ready (rs := [20]) (by kernel_rfl) (by simp) ?_
      refine AllReadyH.cons rfl (fun K hK => ?_) AllReadyH.nil
      rw [if_pos (by rfl)]
      simp only [List.getElem_toArray, List.getElem_cons_zero, List.getElem_cons_succ]
      go_simp
      refine hK.out _ _ hS (fun hS => ?_)
      refine wpAnyH_done (by kernel_rfl) ?_ _
      clear hS
      go_wp2_with fail
      go_ret
      exact ⟨by first | done | rfl | simp, hB⟩
    | some Q =>
      obtain ⟨rfl, rfl, rfl, oQ⟩ := ptOf_some hp
      have OQ := Lib.hid oQ
      clear hp oQ
      have h_ := enc_ok (Q := Q) (nP.below hB) OQ.out (tP.below hB) (tD.below hB)
      unfold EncOk at h_
      obtain ⟨E, hE_⟩ : ∃ E, E = encB Q := ⟨_, rfl⟩
      rw [← hE_] at h_
      have HE := Lib.hid hE_
      have LE : Hid (E.length = 32) := Lib.hid (by rw [hE_]; exact encB_len _)
      have UE : U8 E := by rw [hE_]; exact encB_u8 _
      clear hE_
      go_wp2_with (refine wpList_load_agg rfl 29 _ rfl g3 rfl _ [(.slice ax nx cx), (.slice ay ny cy), (.bool false)] _ hk3 Tryd.underlying29 rfl size_pt ?_)
      refine (h_).mono ?_; rintro e_ w9 ⟨v50, rfl, hn, hb⟩
      obtain ⟨eE, qE, rfl, sE⟩ := hn.sl
      clear hn
      replace hB := hB.trans (hb.mono hB.size)
      replace hk3 := hk3.keep hb
      replace c17x := c17x.below hb
      replace c17y := c17y.below hb
      replace hk5 := hk5.keep hb
      replace sF := sF.below hb
      clear hb h_
      have h_ := Decode_c sE UE (by rw [LE.out]; omega) (tP.below hB) (tD.below hB) (tI.below hB)
      rw [show decB E = some Q from by rw [HE.out]; exact decB_encB OQ.out] at h_
      go_wp2_with fail
      refine (h_).mono ?_; rintro e_ w10 ⟨v77, rfl, hn, hb⟩
      obtain ⟨v77x, v77y, rfl, h1_, h2_, _⟩ := hn
      have c77x := h1_.fp
      have c77y := h2_.fp
      obtain ⟨av77x, nv77x, pv77x, rfl⟩ := c77x.sliced
      obtain ⟨av77y, nv77y, pv77y, rfl⟩ := c77y.sliced
      clear h1_ h2_
      replace hB := hB.trans (hb.mono hB.size)
      replace hk3 := hk3.keep hb
      replace c17x := c17x.below hb
      replace c17y := c17y.below hb
      replace hk5 := hk5.keep hb
      replace sF := sF.below hb
      replace sE := sE.below hb
      clear hb h_
      go_wp2_with (refine wpList_alloc_agg rfl 29 rfl [(.slice none 0 0), (.slice none 0 0), (.bool false)] 3 (by kernel_rfl) ?_)
      intro w11 hk_ hbA_
      obtain ⟨g11, hg_⟩ : ∃ g, g = w10.heap.size := ⟨_, rfl⟩
      rw [← hg_] at hk_ ⊢
      have HGE_ : Hid (w10.heap.size ≤ g11) := Lib.hid (by rw [hg_]; exact Nat.le_refl _)
      clear hg_
      go_wp2_with (refine wpList_store_agg rfl 29 _ _ rfl g11 29 [(.slice none 0 0), (.slice none 0 0), (.bool false)] [(.slice av77x nv77x pv77x), (.slice av77y nv77y pv77y), (.bool false)] rfl rfl hk_ size_pt (by intro v_ hv_; simp only [List.mem_cons, List.not_mem_nil, or_false] at hv_; rcases hv_ with rfl | rfl | rfl <;> first | rfl | exact c77x.one_cell | exact c77y.one_cell) rfl ?_)
      intro w12 hn_ hgr_
      have hk11 := hn_
      have hb := hbA_.grown hgr_ hbA_.size (by intro k_ hk_; cases hk_; exact HGE_.out)
      clear hn_ hgr_ hk_ hbA_ HGE_
      replace hB := hB.trans (hb.mono hB.size)
      replace hk3 := hk3.keep hb
      replace c17x := c17x.below hb
      replace c17y := c17y.below hb
      replace hk5 := hk5.keep hb
      replace sF := sF.below hb
      replace sE := sE.below hb
      replace c77x := c77x.below hb
      replace c77y := c77y.below hb
      clear hb
      go_wp2_with fail
      refine wp_region_held_drew (S := fun W_ => Rw W_ g3 29 [(.slice ax nx cx), (.slice ay ny cy), (.bool false)] ∧ Rw W_ g11 29 [(.slice av77x nv77x pv77x), (.slice av77y nv77y pv77y), (.bool false)]) (by kernel_rfl) (⟨hk3, hk11⟩) (fun hS => ?_)
      have hb := below_drewN (Below.refl w12.heap.size w12) 1
      obtain ⟨w13, hw_⟩ : ∃ x, x = World.drew w12 := ⟨_, rfl⟩
      rw [show World.drewN w12 1 = w13 from hw_.symm] at hb
      rw [← hw_] at hS ⊢
      clear hw_
      replace hB := hB.trans (hb.mono hB.size)
      replace hk3 := hk3.keep hb
      replace c17x := c17x.below hb
      replace c17y := c17y.below hb
      replace hk5 := hk5.keep hb
      replace sF := sF.below hb
      replace sE := sE.below hb
      replace c77x := c77x.below hb
      replace c77y := c77y.below hb
      replace hk11 := hk11.keep hb
      clear hb
      refine wpAnyH_take (i := 0) (v := ?_) rfl (by kernel_rfl) (by kernel_rfl) (by kernel_rfl) (fun _ _ _ h => h) (Or.inl ⟨by rfl, ?_⟩) hS ?_
      rotate_left
      · intro w _; go_simp; try with_reducible rfl
      simp only [List.getElem_toArray, List.getElem_cons_zero, List.getElem_cons_succ, Act.put, List.setIfInBounds_toArray, List.set_cons_zero, List.set_cons_succ]
      refine wpAnyH_take (i := 1) (v := ?_) rfl (by kernel_rfl) (by kernel_rfl) (by kernel_rfl) (fun _ _ _ h => h) (Or.inl ⟨by rfl, ?_⟩) hS ?_
      rotate_left
      · intro w _; go_simp; try with_reducible rfl
      simp only [List.getElem_toArray, List.getElem_cons_zero, List.getElem_cons_succ, Act.put, List.setIfInBounds_toArray, List.set_cons_zero, List.set_cons_succ]
      refine wpAnyH_take (i := 2) (v := ?_) rfl (by kernel_rfl) (by kernel_rfl) (by kernel_rfl) (fun _ _ _ h => h) (Or.inl ⟨by rfl, ?_⟩) hS ?_
      rotate_left
      · intro w _; go_simp; try with_reducible rfl
      simp only [List.getElem_toArray, List.getElem_cons_zero, List.getElem_cons_succ, Act.put, List.setIfInBounds_toArray, List.set_cons_zero, List.set_cons_succ]
      refine wpAnyH_take (i := 3) (v := .agg #[(.slice av77x nv77x pv77x), (.slice av77y nv77y pv77y), (.bool false)]) rfl (by kernel_rfl) (by kernel_rfl) (by kernel_rfl) (fun _ _ _ h => h) (yieldsIf_load_mid (by rfl) 29 _ rfl g11 0 rfl [(.slice av77x nv77x pv77x), (.slice av77y nv77y pv77y), (.bool false)] _ (fun W_ hW_ => Rw.range (hW_.2) 0 _ fun j_ v_ hv_ => by rwa [Nat.zero_add]) Tryd.underlying29 rfl size_pt) hS ?_
      simp only [List.getElem_toArray, List.getElem_cons_zero, List.getElem_cons_succ, Act.put, List.setIfInBounds_toArray, List.set_cons_zero, List.set_cons_succ]
      refine wpAnyH_take (i := 4) (v := ?_) rfl (by kernel_rfl) (by kernel_rfl) (by kernel_rfl) (fun _ _ _ h => h) (Or.inl ⟨by rfl, ?_⟩) hS ?_
      rotate_left
      · intro w _; go_simp; try with_reducible rfl
      simp only [List.getElem_toArray, List.getElem_cons_zero, List.getElem_cons_succ, Act.put, List.setIfInBounds_toArray, List.set_cons_zero, List.set_cons_succ]
      refine wpAnyH_take (i := 5) (v := ?_) rfl (by kernel_rfl) (by kernel_rfl) (by kernel_rfl) (fun _ _ _ h => h) (Or.inl ⟨by rfl, ?_⟩) hS ?_
      rotate_left
      · intro W_ hW_; have c_ := Rw.cell (hW_.1) 0 rfl; go_simp; try with_reducible rfl
      simp only [List.getElem_toArray, List.getElem_cons_zero, List.getElem_cons_succ, Act.put, List.setIfInBounds_toArray, List.set_cons_zero, List.set_cons_succ]
      refine wpAnyH_take (i := 7) (v := ?_) rfl (by kernel_rfl) (by kernel_rfl) (by kernel_rfl) (fun _ _ _ h => h) (Or.inl ⟨by rfl, ?_⟩) hS ?_
      rotate_left
      · intro w _; go_simp; try with_reducible rfl
      simp only [List.getElem_toArray, List.getElem_cons_zero, List.getElem_cons_succ, Act.put, List.setIfInBounds_toArray, List.set_cons_zero, List.set_cons_succ]
      refine wpAnyH_take (i := 8) (v := ?_) rfl (by kernel_rfl) (by kernel_rfl) (by kernel_rfl) (fun _ _ _ h => h) (Or.inl ⟨by rfl, ?_⟩) hS ?_
      rotate_left
      · intro W_ hW_; have c_ := Rw.cell (hW_.1) 1 rfl; go_simp; try with_reducible rfl
      simp only [List.getElem_toArray, List.getElem_cons_zero, List.getElem_cons_succ, Act.put, List.setIfInBounds_toArray, List.set_cons_zero, List.set_cons_succ]
      refine wpAnyH_ready (rs := [6]) (by kernel_rfl) (by simp) ?_
      refine AllReadyH.cons rfl (fun K hK => ?_) AllReadyH.nil
      rw [if_pos (by rfl)]
      simp only [List.getElem_toArray, List.getElem_cons_zero, List.getElem_cons_succ]
      go_simp
      refine (TX _ hB).mono ?_; rintro e_ w_ ⟨v86, rfl, c86, rfl⟩
      dsimp only
      refine hK.out _ _ hS (fun hS => ?_)
      refine wpAnyH_ready (rs := [9]) (by kernel_rfl) (by simp) ?_
      refine AllReadyH.cons rfl (fun K hK => ?_) AllReadyH.nil
      rw [if_pos (by rfl)]
      simp only [List.getElem_toArray, List.getElem_cons_zero, List.getElem_cons_succ]
      go_simp
      refine (TY _ hB).mono ?_; rintro e_ w_ ⟨v89, rfl, c89, rfl⟩
      dsimp only
      refine hK.out _ _ hS (fun hS => ?_)
      obtain ⟨a86_, n86_, p86_, rfl⟩ := c86.sliced
      obtain ⟨a89_, n89_, p89_, rfl⟩ := c89.sliced
      refine wpAnyH_ready (rs := [10]) (by kernel_rfl) (by simp) ?_
      refine AllReadyH.cons rfl (fun K hK => ?_) AllReadyH.nil
      rw [if_pos (by rfl)]
      simp only [List.getElem_toArray, List.getElem_cons_zero, List.getElem_cons_succ]
      go_simp
      refine hK.out _ _ hS (fun hS => ?_)
      have h_ := one_c ⟨_, _, rfl, c77x, c77y⟩ ⟨_, _, rfl, c86, c89⟩
      rw [show decide (Q.1.val = Q.1.val ∧ Q.2.val = Q.2.val) = true from decide_eq_true ⟨rfl, rfl⟩] at h_
      refine wpAnyH_ready (rs := [11]) (by kernel_rfl) (by simp) ?_
      refine AllReadyH.cons rfl (fun K hK => ?_) AllReadyH.nil
      rw [if_pos (by rfl)]
      simp only [List.getElem_toArray, List.getElem_cons_zero, List.getElem_cons_succ]
      go_simp
      refine (h_).mono ?_; rintro e_ w14 ⟨rfl, hb⟩
      dsimp only
      replace hB := hB.trans (hb.mono hB.size)
      replace hk3 := hk3.keep hb
      replace c17x := c17x.below hb
      replace c17y := c17y.below hb
      replace hk5 := hk5.keep hb
      replace sF := sF.below hb
      replace sE := sE.below hb
      replace c77x := c77x.below hb
      replace c77y := c77y.below hb
      replace hk11 := hk11.keep hb
      clear hb h_
      refine hK.out _ _ ⟨hk3, hk11⟩ (fun hS => ?_)
      refine wpAnyH_ready (rs := [12]) (by kernel_rfl) (by simp) ?_
      refine AllReadyH.cons rfl (fun K hK => ?_) AllReadyH.nil
      rw [if_pos (by rfl)]
      simp only [List.getElem_toArray, List.getElem_cons_zero, List.getElem_cons_succ]
      go_simp
      refine hK.out _ _ hS (fun hS => ?_)
      refine wpAnyH_ready (rs := [13]) (by kernel_rfl) (by simp) ?_
      refine AllReadyH.cons rfl (fun K hK => ?_) AllReadyH.nil
      rw [if_pos (by rfl)]
      simp only [List.getElem_toArray, List.getElem_cons_zero, List.getElem_cons_succ]
      go_simp
      refine hK.out _ _ hS (fun hS => ?_)
      refine wpAnyH_done (by kernel_rfl) ?_ _
      clear hS
      go_wp2_with fail
      go_ret
      exact ⟨by first | done | rfl | simp, hB⟩
end Go.Proofs.YtlolkighnnedfaaDoor
