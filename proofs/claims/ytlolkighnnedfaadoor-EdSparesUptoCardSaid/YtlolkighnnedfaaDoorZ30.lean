import Derived.Test.YtlolkighnnedfaaDoorZ24
import Derived.Test.YtlolkighnnedfaaDoorZ14
/- signetlaw13, outright: prime, zero, opposite, on, by their contracts. (Printed by gen_edoa.py.) -/
set_option linter.unusedVariables false
set_option linter.unusedSimpArgs false
namespace Go.Proofs.YtlolkighnnedfaaDoor
open Go.RowKit Go.Sg
def K6 : Fp := ⟨121666, by decide⟩
def K5 : Fp := ⟨121665, by decide⟩
theorem shl255 {v : Value} {w : World} (h : NumAt w v (1 : Fp).val) : Calls Tryd.prog 116 #[v, .int .i64 255] w (NatPost (eP + 19) w) := by
  obtain ⟨a, c, zs, rfl, s, u, hv, hl⟩ := h
  have h1 := Shl_k a c 255 zs w s u (by omega) (by omega)
  rw [hv, show (1 : Fp).val * 2 ^ 255 = eP + 19 by decide +kernel] at h1
  exact h1
theorem subP {v v' : Value} {w : World} (h : NumAt w v (eP + 19)) (h' : NumAt w v' 19) : Calls Tryd.prog 115 #[v, v'] w (fun e w' => ∃ v, e = .returned (.tuple #[v, .bool true]) ∧ NatRes w.heap.size w' v eP ∧ Below w.heap.size w w') :=
  (sub_v h h').mono fun e w' hp => by
    obtain ⟨v, rfl, hr⟩ := hp.1 (by omega)
    exact ⟨v, rfl, hr, hp.2.2⟩
def OkF (x : Fp) (W : World) (e : Ending) (w' : World) : Prop := ∃ v, e = .returned (.tuple #[v, .int .i64 0]) ∧ NatRes W.heap.size w' v x.val ∧ Below W.heap.size W w'
theorem osub_f {v v' v'' : Value} {x y : Fp} {w : World} (h : NumAt w v x.val) (h' : NumAt w v' y.val) (h'' : NumAt w v'' eP) : Calls Tryd.prog 69 #[v, v', v''] w (OkF (x - y) w) := by
  have mc := mSub_v h h' h''
  rw [(ok_fp x y).code, fp_mod, fp_mod, ← fp_subM] at mc
  refine mc.mono fun e w' hm => ?_
  obtain ⟨v2, rfl, hr⟩ := hm.2.1 rfl
  exact ⟨v2, rfl, hr, hm.2.2⟩
theorem omul_f {v v' v'' : Value} {x y : Fp} {w : World} (h : NumAt w v x.val) (h' : NumAt w v' y.val) (h'' : NumAt w v'' eP) : Calls Tryd.prog 45 #[v, v', v''] w (OkF (x * y) w) := by
  have mc := mMul_v h h' h''
  rw [(ok_fp x y).code, ← fp_mul] at mc
  refine mc.mono fun e w' hm => ?_
  obtain ⟨v2, rfl, hr⟩ := hm.2.1 rfl
  exact ⟨v2, rfl, hr, hm.2.2⟩
/-- A canonical number: no nought on top. -/
theorem CanAt.top {w : World} {v : Value} {n : Nat} (h : CanAt w v n) : ∃ a l p, v = .slice a l p ∧ (l = 0 ∨ ∃ b off j z, a = some ⟨b, off, none⟩ ∧ l = j + 1 ∧ w.cell? ⟨b, off + j, none⟩ = some (.int .u32 z) ∧ (z == 0) = false ∧ j < 17592186044416) := by
  obtain ⟨a, c, zs, hv, hs, hc, hu, hz, hl⟩ := h
  refine ⟨a, _, c, hv, ?_⟩
  by_cases h0 : zs.length = 0
  · exact .inl h0
  · obtain ⟨b, off, rfl, hcc⟩ := hs.cells (by omega)
    refine .inr ⟨b, off, zs.length - 1, nth zs (zs.length - 1), rfl, by omega, hcc _ (by omega), ?_, by omega⟩
    have := hc.last (by omega)
    simpa using this
theorem prime13_c (w : World) : Calls Tryd.prog 70 #[] w (CanPost eP w) := by
  go_enter Tryd.func70, Tryd.ntmps70
  have hB := Below.refl w.heap.size w
  go_wp2_with (refine wpList_lit rfl 27 36 _ rfl Tryd.underlying27 info32e 1 rfl ?_)
  intro w1 hl hb
  have c4 := (NatRes.lit (c := 1) hl (Nat.zero_le _) (by omega) (by omega)).can (k := 1) (by exact ⟨by decide +kernel⟩) (by omega)
  replace c4 : CanAt w1 _ (1 : Fp).val := c4
  obtain ⟨v4, hv4⟩ : ∃ v, v = Value.slice (some ⟨w.heap.size, 0, none⟩) 1 1 := ⟨_, rfl⟩
  rw [← hv4] at c4 ⊢
  clear hv4 hl
  replace hB := hB.trans (hb.mono hB.size)
  clear hb
  go_wp2_with fail
  refine (shl255 c4.num).mono ?_; rintro e_ w2 ⟨v5, rfl, hn, hb⟩
  have c5 := hn.can (k := 9) ⟨by decide +kernel⟩ (by omega)
  replace hB := hB.trans (hb.mono hB.size)
  replace c4 := c4.below hb
  clear hb hn
  go_wp2_with (refine wpList_lit rfl 27 36 _ rfl Tryd.underlying27 info32e 19 rfl ?_)
  intro w3 hl hb
  have c6 := (NatRes.lit (c := 19) hl (Nat.zero_le _) (by omega) (by omega)).can (k := 1) (by exact ⟨by decide +kernel⟩) (by omega)
  obtain ⟨v6, hv6⟩ : ∃ v, v = Value.slice (some ⟨w2.heap.size, 0, none⟩) 1 1 := ⟨_, rfl⟩
  rw [← hv6] at c6 ⊢
  clear hv6 hl
  replace hB := hB.trans (hb.mono hB.size)
  replace c4 := c4.below hb
  replace c5 := c5.below hb
  clear hb
  go_wp2_with fail
  refine (subP c5.num c6.num).mono ?_; rintro e_ w4 ⟨v7, rfl, hn, hb⟩
  have c7 := hn.can lim_eP (by omega)
  replace hB := hB.trans (hb.mono hB.size)
  replace c4 := c4.below hb
  replace c5 := c5.below hb
  replace c6 := c6.below hb
  clear hb hn
  go_wp2_with fail
  go_ret
  exact ⟨_, rfl, c7, hB⟩
theorem zero_c (w : World) : Calls Tryd.prog 23 #[] w (fun e w' => ∃ v, e = .returned v ∧ PtAt w' v eO ∧ Below w.heap.size w w') := by
  go_enter Tryd.func23, Tryd.ntmps23
  have hB := Below.refl w.heap.size w
  go_wp2_with (refine wpList_alloc_agg rfl 29 rfl [(.slice none 0 0), (.slice none 0 0), (.bool false)] 3 (by kernel_rfl) ?_)
  intro w1 hk0 hb
  have hz_ := hB.size
  replace hB := hB.trans (hb.mono hB.size)
  clear hb
  obtain ⟨g0, hg_⟩ : ∃ g, g = w.heap.size := ⟨_, rfl⟩
  rw [← hg_] at hk0 ⊢
  have HG0 : Hid (w.heap.size ≤ g0) := Lib.hid (by rw [hg_]; exact hz_)
  clear hg_ hz_
  go_wp2_with (refine wpList_lit rfl 27 36 _ rfl Tryd.underlying27 info32e 1 rfl ?_)
  intro w2 hl hb
  have r1 := NatRes.lit (c := 1) hl (Nat.succ_le_of_lt hk0.lt) (by omega) (by omega)
  have c1 := (NatRes.lit (c := 1) hl (Nat.zero_le _) (by omega) (by omega)).can (k := 1) (by exact ⟨by decide +kernel⟩) (by omega)
  replace c1 : CanAt w2 _ (1 : Fp).val := c1
  replace r1 : NatRes _ w2 _ (1 : Fp).val := r1
  obtain ⟨v1, hv1⟩ : ∃ v, v = Value.slice (some ⟨w1.heap.size, 0, none⟩) 1 1 := ⟨_, rfl⟩
  rw [← hv1] at c1 r1 ⊢
  clear hv1 hl
  replace hB := hB.trans (hb.mono hB.size)
  replace hk0 := hk0.keep hb
  clear hb
  obtain ⟨a1_, n1_, p1_, rfl⟩ := c1.sliced
  go_wp2_with (refine wpList_store_agg rfl 29 _ _ rfl g0 29 [(.slice none 0 0), (.slice none 0 0), (.bool false)] [(.slice none 0 0), (.slice a1_ n1_ p1_), (.bool false)] rfl rfl hk0 size_pt (by intro v_ hv_; simp only [List.mem_cons, List.not_mem_nil, or_false] at hv_; rcases hv_ with rfl | rfl | rfl <;> first | rfl | exact c1.one_cell) rfl ?_)
  intro w3 hn hg
  replace hB := hB.grown hg hB.size (by intro k_ hk_; cases hk_; exact HG0.out)
  replace hk0 := hn
  clear c1
  replace r1 := r1.past hg
  clear hn hg
  go_wp2_with fail
  refine bodyPost_ret (results_agg rfl rfl hk0 Tryd.underlying29 rfl size_pt) rfl ?_
  exact ⟨_, rfl, ⟨_, _, rfl, CanAt.nil0 _, r1.fp⟩, hB⟩
set_option maxHeartbeats 4000000 in
set_option maxRecDepth 20000 in
theorem opposite_c {vx vy : Value} {x y : Fp} {w : World} (cx : CanAt w vx x.val) (cy : CanAt w vy y.val) :
    Calls Tryd.prog 28 #[.agg #[vx, vy, .bool false]] w (fun e w' => ∃ v, e = .returned v ∧ PtAt w' v (eNeg (x, y)) ∧ Below w.heap.size w w') := by
  have EN : Hid ((0 : Fp) - x = -x) := Lib.hid (by grind)
  obtain ⟨ay_, ny_, py_, rfl⟩ := cy.sliced
  go_enter Tryd.func28, Tryd.ntmps28
  have hB := Below.refl w.heap.size w
  go_wp2_with (refine wpList_box_agg rfl 29 _ rfl [vx, (.slice ay_ ny_ py_), .bool false] rfl ?_)
  intro w1 hk1 hb
  have hz_ := hB.size
  replace hB := hB.trans (hb.mono hB.size)
  clear hb
  obtain ⟨g1, hg_⟩ : ∃ g, g = w.heap.size := ⟨_, rfl⟩
  rw [← hg_] at hk1 ⊢
  have HG1 : Hid (w.heap.size ≤ g1) := Lib.hid (by rw [hg_]; exact hz_)
  clear hg_ hz_
  go_wp2_with (refine wpList_alloc_agg rfl 29 rfl [(.slice none 0 0), (.slice none 0 0), (.bool false)] 3 (by kernel_rfl) ?_)
  intro w2 hk2 hb
  have hz_ := hB.size
  have lt1_ := hk1.lt
  replace hB := hB.trans (hb.mono hB.size)
  replace hk1 := hk1.keep hb
  clear hb
  obtain ⟨g2, hg_⟩ : ∃ g, g = w1.heap.size := ⟨_, rfl⟩
  rw [← hg_] at hk2 ⊢
  have HG2 : Hid (w.heap.size ≤ g2) := Lib.hid (by rw [hg_]; exact hz_)
  have NE1_2 : Hid (g1 ≠ g2) := Lib.hid (by rw [hg_]; exact Nat.ne_of_lt lt1_)
  clear hg_ hz_ lt1_
  go_wp2_with fail
  refine wp_region_held_drew (S := fun W_ => Rw W_ g1 29 [vx, (.slice ay_ ny_ py_), .bool false]) (by kernel_rfl) (hk1) (fun hS => ?_)
  have hb := below_drewN (Below.refl w2.heap.size w2) 1
  obtain ⟨w3, hw_⟩ : ∃ x, x = World.drew w2 := ⟨_, rfl⟩
  rw [show World.drewN w2 1 = w3 from hw_.symm] at hb
  rw [← hw_] at hS ⊢
  clear hw_
  replace hB := hB.trans (hb.mono hB.size)
  replace hk1 := hk1.keep hb
  replace hk2 := hk2.keep hb
  clear hb
  refine wpAnyH_take (i := 0) (v := ?_) rfl (by kernel_rfl) (by kernel_rfl) (by kernel_rfl) (fun _ _ _ h => h) (Or.inl ⟨by rfl, ?_⟩) hS ?_
  rotate_left
  · intro w _; go_simp; try with_reducible rfl
  simp only [List.getElem_toArray, List.getElem_cons_zero, List.getElem_cons_succ, Act.put, List.setIfInBounds_toArray, List.set_cons_zero, List.set_cons_succ]
  refine wpAnyH_take (i := 1) (v := ?_) rfl (by kernel_rfl) (by kernel_rfl) (by kernel_rfl) (fun _ _ _ h => h) (Or.inl ⟨by rfl, ?_⟩) hS ?_
  rotate_left
  · intro W_ hW_; have c_ := Rw.cell hW_ 0 rfl; go_simp; try with_reducible rfl
  simp only [List.getElem_toArray, List.getElem_cons_zero, List.getElem_cons_succ, Act.put, List.setIfInBounds_toArray, List.set_cons_zero, List.set_cons_succ]
  refine wpAnyH_ready (rs := [2]) (by kernel_rfl) (by simp) ?_
  refine AllReadyH.cons rfl (fun K hK => ?_) AllReadyH.nil
  rw [if_pos (by rfl)]
  simp only [List.getElem_toArray, List.getElem_cons_zero, List.getElem_cons_succ]
  go_simp
  refine (prime13_c w3).mono ?_; rintro e_ w4 ⟨v8, rfl, c8, hb⟩
  dsimp only
  replace hB := hB.trans (hb.mono hB.size)
  replace hk1 := hk1.keep hb
  replace hk2 := hk2.keep hb
  clear hb
  refine hK.out _ _ hk1 (fun hS => ?_)
  refine wpAnyH_ready (rs := [3]) (by kernel_rfl) (by simp) ?_
  refine AllReadyH.cons rfl (fun K hK => ?_) AllReadyH.nil
  rw [if_pos (by rfl)]
  simp only [List.getElem_toArray, List.getElem_cons_zero, List.getElem_cons_succ]
  go_simp
  refine (osub_f (CanAt.nil0 w4).num (cx.below hB).num c8.num).mono ?_; rintro e_ w5 ⟨v9, rfl, hn, hb⟩
  dsimp only
  have c9 := hn.fp
  have r9 := hn.mono (Nat.succ_le_of_lt hk2.lt)
  replace hB := hB.trans (hb.mono hB.size)
  replace hk1 := hk1.keep hb
  replace hk2 := hk2.keep hb
  replace c8 := c8.below hb
  clear hb hn
  refine hK.out _ _ hk1 (fun hS => ?_)
  refine wpAnyH_take (i := 4) (v := ?_) rfl (by kernel_rfl) (by kernel_rfl) (by kernel_rfl) (fun _ _ _ h => h) (Or.inl ⟨by rfl, ?_⟩) hS ?_
  rotate_left
  · intro w _; go_simp; try with_reducible rfl
  simp only [List.getElem_toArray, List.getElem_cons_zero, List.getElem_cons_succ, Act.put, List.setIfInBounds_toArray, List.set_cons_zero, List.set_cons_succ]
  refine wpAnyH_take (i := 5) (v := ?_) rfl (by kernel_rfl) (by kernel_rfl) (by kernel_rfl) (fun _ _ _ h => h) (Or.inl ⟨by rfl, ?_⟩) hS ?_
  rotate_left
  · intro w _; go_simp; try with_reducible rfl
  simp only [List.getElem_toArray, List.getElem_cons_zero, List.getElem_cons_succ, Act.put, List.setIfInBounds_toArray, List.set_cons_zero, List.set_cons_succ]
  refine wpAnyH_take (i := 6) (v := ?_) rfl (by kernel_rfl) (by kernel_rfl) (by kernel_rfl) (fun _ _ _ h => h) (Or.inl ⟨by rfl, ?_⟩) hS ?_
  rotate_left
  · intro w _; go_simp; try with_reducible rfl
  simp only [List.getElem_toArray, List.getElem_cons_zero, List.getElem_cons_succ, Act.put, List.setIfInBounds_toArray, List.set_cons_zero, List.set_cons_succ]
  refine wpAnyH_take (i := 7) (v := ?_) rfl (by kernel_rfl) (by kernel_rfl) (by kernel_rfl) (fun _ _ _ h => h) (Or.inl ⟨by rfl, ?_⟩) hS ?_
  rotate_left
  · intro w _; go_simp; try with_reducible rfl
  simp only [List.getElem_toArray, List.getElem_cons_zero, List.getElem_cons_succ, Act.put, List.setIfInBounds_toArray, List.set_cons_zero, List.set_cons_succ]
  refine wpAnyH_take (i := 8) (v := ?_) rfl (by kernel_rfl) (by kernel_rfl) (by kernel_rfl) (fun _ _ _ h => h) (Or.inl ⟨by rfl, ?_⟩) hS ?_
  rotate_left
  · intro w _; go_simp; try with_reducible rfl
  simp only [List.getElem_toArray, List.getElem_cons_zero, List.getElem_cons_succ, Act.put, List.setIfInBounds_toArray, List.set_cons_zero, List.set_cons_succ]
  refine wpAnyH_done (by kernel_rfl) ?_ _
  clear hS
  obtain ⟨a9_, n9_, p9_, rfl⟩ := c9.sliced
  have q0_ := hk1.cell 1 rfl
  go_wp2_with (refine wpList_store_agg rfl 29 _ _ rfl g2 29 [(.slice none 0 0), (.slice none 0 0), (.bool false)] [(.slice a9_ n9_ p9_), (.slice ay_ ny_ py_), (.bool false)] rfl rfl hk2 size_pt (by intro v_ hv_; simp only [List.mem_cons, List.not_mem_nil, or_false] at hv_; rcases hv_ with rfl | rfl | rfl <;> first | rfl | exact c9.one_cell | exact (cy.below hB).one_cell) rfl ?_)
  clear q0_
  intro w6 hn hg
  replace hB := hB.grown hg hB.size (by intro k_ hk_; cases hk_; exact HG2.out)
  replace hk1 := hk1.grown hg (fun e_ => NE1_2.out (Option.some.inj e_))
  replace hk2 := hn
  clear c8
  clear c9
  replace r9 := r9.past hg
  clear hn hg
  go_wp2_with fail
  refine bodyPost_ret (results_agg rfl rfl hk2 Tryd.underlying29 rfl size_pt) rfl ?_
  exact ⟨_, rfl, ⟨_, _, rfl, by have h1 := r9.fp; rw [EN.out] at h1; exact h1, cy.below hB⟩, hB⟩
set_option maxHeartbeats 4000000 in
set_option maxRecDepth 20000 in
theorem on13_c {vx vy : Value} {X Y : Nat} {inf : Bool} {w : World} (nx : CanAt w vx X) (ny : CanAt w vy Y) :
    Calls Tryd.prog 29 #[.agg #[vx, vy, .bool inf]] w (fun e w' => e = .returned (.bool (onB X Y inf)) ∧ Below w.heap.size w w') := by
  cases hinf : inf with
  | true =>
    have HE := Lib.hid (onB_inf X Y)
    clear hinf
    go_enter Tryd.func29, Tryd.ntmps29
    have hB := Below.refl w.heap.size w
    go_wp2_with (refine wpList_box_agg rfl 29 _ rfl [vx, vy, .bool true] rfl ?_)
    intro w1 hk1 hb
    have hz_ := hB.size
    replace hB := hB.trans (hb.mono hB.size)
    clear hb
    obtain ⟨g1, hg_⟩ : ∃ g, g = w.heap.size := ⟨_, rfl⟩
    rw [← hg_] at hk1 ⊢
    have HG1 : Hid (w.heap.size ≤ g1) := Lib.hid (by rw [hg_]; exact hz_)
    clear hg_ hz_
    go_wp2_with fail
    refine (prime13_c w1).mono ?_; rintro e_ w2 ⟨v18, rfl, c18, hb⟩
    replace hB := hB.trans (hb.mono hB.size)
    replace hk1 := hk1.keep hb
    clear hb
    have q0_ := hk1.cell 2 rfl
    go_wp2_with fail
    go_ret
    exact ⟨by rw [HE.out]; first | done | rfl, hB⟩
  | false =>
    clear hinf
    by_cases hx : X < eP
    · by_cases hy : Y < eP
      · obtain ⟨x, rfl⟩ : ∃ x : Fp, X = x.val := ⟨⟨X, hx⟩, rfl⟩
        obtain ⟨y, rfl⟩ : ∃ y : Fp, Y = y.val := ⟨⟨Y, hy⟩, rfl⟩
        have HX := Lib.hid (cmpI_lt hx)
        have HY := Lib.hid (cmpI_lt hy)
        clear hx hy
        obtain ⟨ax_, lx_, px_, rfl, hlx⟩ := nx.top
        obtain ⟨ay_, ly_, py_, rfl, hly⟩ := ny.top
        have HLX := Lib.hid hlx
        have HLY := Lib.hid hly
        clear hlx hly
        go_enter Tryd.func29, Tryd.ntmps29
        have hB := Below.refl w.heap.size w
        go_wp2_with (refine wpList_box_agg rfl 29 _ rfl [(.slice ax_ lx_ px_), (.slice ay_ ly_ py_), .bool false] rfl ?_)
        intro w1 hk1 hb
        have hz_ := hB.size
        replace hB := hB.trans (hb.mono hB.size)
        clear hb
        obtain ⟨g1, hg_⟩ : ∃ g, g = w.heap.size := ⟨_, rfl⟩
        rw [← hg_] at hk1 ⊢
        have HG1 : Hid (w.heap.size ≤ g1) := Lib.hid (by rw [hg_]; exact hz_)
        clear hg_ hz_
        go_wp2_with fail
        refine (prime13_c w1).mono ?_; rintro e_ w2 ⟨v18, rfl, c18, hb⟩
        replace hB := hB.trans (hb.mono hB.size)
        replace hk1 := hk1.keep hb
        clear hb
        have h_ := cmp_v (nx.below hB).num c18.num
        rw [HX.out] at h_
        have q0_ := hk1.cell 2 rfl
        have q1_ := hk1.cell 0 rfl
        go_wp2_with fail
        refine (h_).mono ?_; rintro e_ w3 ⟨rfl, hd_⟩
        clear q0_ q1_
        have hb := hd_.b
        replace hB := hB.trans (hb.mono hB.size)
        replace hk1 := hk1.keep hb
        replace c18 := c18.below hb
        clear hb hd_ h_
        have h_ := cmp_v (ny.below hB).num c18.num
        rw [HY.out] at h_
        have q0_ := hk1.cell 1 rfl
        go_wp2_with fail
        refine (h_).mono ?_; rintro e_ w4 ⟨rfl, hd_⟩
        clear q0_
        have hb := hd_.b
        replace hB := hB.trans (hb.mono hB.size)
        replace hk1 := hk1.keep hb
        replace c18 := c18.below hb
        clear hb hd_ h_
        rcases HLX.out with rfl | ⟨bx_, ox_, jx_, zx_, rfl, rfl, ctx, gx0, bx0⟩
        · skip
          rcases HLY.out with rfl | ⟨by_, oy_, jy_, zy_, rfl, rfl, cty, gy0, by0⟩
          · skip
            have q0_ := hk1.cell 0 rfl
            have q1_ := hk1.cell 1 rfl
            have q0_ := hk1.cell 0 rfl
            have q1_ := hk1.cell 0 rfl
            go_wp2_with fail
            refine (omul_f (nx.below hB).num (nx.below hB).num c18.num).mono ?_; rintro e_ w5 ⟨v75, rfl, hn, hb⟩
            clear q0_ q1_
            have c75 := hn.fp
            replace hB := hB.trans (hb.mono hB.size)
            replace hk1 := hk1.keep hb
            replace c18 := c18.below hb
            clear hb hn
            have q0_ := hk1.cell 1 rfl
            have q1_ := hk1.cell 1 rfl
            go_wp2_with fail
            refine (omul_f (ny.below hB).num (ny.below hB).num c18.num).mono ?_; rintro e_ w6 ⟨v84, rfl, hn, hb⟩
            clear q0_ q1_
            have c84 := hn.fp
            replace hB := hB.trans (hb.mono hB.size)
            replace hk1 := hk1.keep hb
            replace c18 := c18.below hb
            replace c75 := c75.below hb
            clear hb hn
            go_wp2_with fail
            refine (osub_f c84.num c75.num c18.num).mono ?_; rintro e_ w7 ⟨v91, rfl, hn, hb⟩
            have c91 := hn.fp
            replace hB := hB.trans (hb.mono hB.size)
            replace hk1 := hk1.keep hb
            replace c18 := c18.below hb
            replace c75 := c75.below hb
            replace c84 := c84.below hb
            clear hb hn
            go_wp2_with (refine wpList_lit rfl 27 36 _ rfl Tryd.underlying27 info32e 121666 rfl ?_)
            intro w8 hl hb
            have c96 := (NatRes.lit (c := 121666) hl (Nat.zero_le _) (by omega) (by omega)).can (k := 1) (by exact ⟨by decide +kernel⟩) (by omega)
            obtain ⟨v96, hv96⟩ : ∃ v, v = Value.slice (some ⟨w7.heap.size, 0, none⟩) 1 1 := ⟨_, rfl⟩
            rw [← hv96] at c96 ⊢
            clear hv96 hl
            replace hB := hB.trans (hb.mono hB.size)
            replace hk1 := hk1.keep hb
            replace c18 := c18.below hb
            replace c75 := c75.below hb
            replace c84 := c84.below hb
            replace c91 := c91.below hb
            clear hb
            replace c96 : CanAt w8 v96 (K6).val := c96
            go_wp2_with fail
            refine (omul_f c91.num c96.num c18.num).mono ?_; rintro e_ w9 ⟨v98, rfl, hn, hb⟩
            have c98 := hn.fp
            replace hB := hB.trans (hb.mono hB.size)
            replace hk1 := hk1.keep hb
            replace c18 := c18.below hb
            replace c75 := c75.below hb
            replace c84 := c84.below hb
            replace c91 := c91.below hb
            replace c96 := c96.below hb
            clear hb hn
            go_wp2_with fail
            refine (omul_f c75.num c84.num c18.num).mono ?_; rintro e_ w10 ⟨v105, rfl, hn, hb⟩
            have c105 := hn.fp
            replace hB := hB.trans (hb.mono hB.size)
            replace hk1 := hk1.keep hb
            replace c18 := c18.below hb
            replace c75 := c75.below hb
            replace c84 := c84.below hb
            replace c91 := c91.below hb
            replace c96 := c96.below hb
            replace c98 := c98.below hb
            clear hb hn
            go_wp2_with (refine wpList_lit rfl 27 36 _ rfl Tryd.underlying27 info32e 121665 rfl ?_)
            intro w11 hl hb
            have c110 := (NatRes.lit (c := 121665) hl (Nat.zero_le _) (by omega) (by omega)).can (k := 1) (by exact ⟨by decide +kernel⟩) (by omega)
            obtain ⟨v110, hv110⟩ : ∃ v, v = Value.slice (some ⟨w10.heap.size, 0, none⟩) 1 1 := ⟨_, rfl⟩
            rw [← hv110] at c110 ⊢
            clear hv110 hl
            replace hB := hB.trans (hb.mono hB.size)
            replace hk1 := hk1.keep hb
            replace c18 := c18.below hb
            replace c75 := c75.below hb
            replace c84 := c84.below hb
            replace c91 := c91.below hb
            replace c96 := c96.below hb
            replace c98 := c98.below hb
            replace c105 := c105.below hb
            clear hb
            replace c110 : CanAt w11 v110 (K5).val := c110
            go_wp2_with fail
            refine (omul_f c105.num c110.num c18.num).mono ?_; rintro e_ w12 ⟨v112, rfl, hn, hb⟩
            have c112 := hn.fp
            replace hB := hB.trans (hb.mono hB.size)
            replace hk1 := hk1.keep hb
            replace c18 := c18.below hb
            replace c75 := c75.below hb
            replace c84 := c84.below hb
            replace c91 := c91.below hb
            replace c96 := c96.below hb
            replace c98 := c98.below hb
            replace c105 := c105.below hb
            replace c110 := c110.below hb
            clear hb hn
            go_wp2_with (refine wpList_lit rfl 27 36 _ rfl Tryd.underlying27 info32e 121666 rfl ?_)
            intro w13 hl hb
            have c116 := (NatRes.lit (c := 121666) hl (Nat.zero_le _) (by omega) (by omega)).can (k := 1) (by exact ⟨by decide +kernel⟩) (by omega)
            obtain ⟨v116, hv116⟩ : ∃ v, v = Value.slice (some ⟨w12.heap.size, 0, none⟩) 1 1 := ⟨_, rfl⟩
            rw [← hv116] at c116 ⊢
            clear hv116 hl
            replace hB := hB.trans (hb.mono hB.size)
            replace hk1 := hk1.keep hb
            replace c18 := c18.below hb
            replace c75 := c75.below hb
            replace c84 := c84.below hb
            replace c91 := c91.below hb
            replace c96 := c96.below hb
            replace c98 := c98.below hb
            replace c105 := c105.below hb
            replace c110 := c110.below hb
            replace c112 := c112.below hb
            clear hb
            replace c116 : CanAt w13 v116 (K6).val := c116
            go_wp2_with fail
            refine (osub_f c116.num c112.num c18.num).mono ?_; rintro e_ w14 ⟨v119, rfl, hn, hb⟩
            have c119 := hn.fp
            replace hB := hB.trans (hb.mono hB.size)
            replace hk1 := hk1.keep hb
            replace c18 := c18.below hb
            replace c75 := c75.below hb
            replace c84 := c84.below hb
            replace c91 := c91.below hb
            replace c96 := c96.below hb
            replace c98 := c98.below hb
            replace c105 := c105.below hb
            replace c110 := c110.below hb
            replace c112 := c112.below hb
            replace c116 := c116.below hb
            clear hb hn
            by_cases ho : OnC (x, y)
            · skip
              have HE : Hid (onB x.val y.val false = true) := Lib.hid (onB_of (P := (x, y)) ho)
              have hd_ : decide (((((y * y) - (x * x)) * K6)).val = ((K6 - (((x * x) * (y * y)) * K5))).val) = true := by
                have h1 := on_121 (x, y)
                exact decide_eq_true (congrArg Fin.val (h1.1 ho))
              have h_ := sameNat_can c98 c119
              rw [hd_] at h_
              clear hd_ ho
              go_wp2_with fail
              refine h_.mono ?_; rintro e_ w_ ⟨rfl, hd_⟩
              have hb := hd_.b
              replace hB := hB.trans (hb.mono hB.size)
              go_wp2_with fail
              go_ret
              exact ⟨by rw [HE.out]; first | done | rfl, hB⟩
            · skip
              have HE : Hid (onB x.val y.val false = false) := Lib.hid (onB_no (fun h => ho h))
              have hd_ : decide (((((y * y) - (x * x)) * K6)).val = ((K6 - (((x * x) * (y * y)) * K5))).val) = false := by
                have h1 := on_121 (x, y)
                exact decide_eq_false (fun h => ho (h1.2 (fp_ext h)))
              have h_ := sameNat_can c98 c119
              rw [hd_] at h_
              clear hd_ ho
              go_wp2_with fail
              refine h_.mono ?_; rintro e_ w_ ⟨rfl, hd_⟩
              have hb := hd_.b
              replace hB := hB.trans (hb.mono hB.size)
              go_wp2_with fail
              go_ret
              exact ⟨by rw [HE.out]; first | done | rfl, hB⟩
          · skip
            replace cty := (hB.cell (World.block_lt_of_cell? w _ cty)).trans cty
            have py1 : ((jy_ + 1 : Nat) : Int) - 1 = (jy_ : Int) := by omega
            have py2 : decide ((0 : Int) < ((jy_ + 1 : Nat) : Int)) = true := decide_eq_true (by omega)
            have q0_ := hk1.cell 0 rfl
            have q1_ := hk1.cell 1 rfl
            have q0_ := hk1.cell 0 rfl
            have q1_ := hk1.cell 0 rfl
            go_wp2_with fail
            refine (omul_f (nx.below hB).num (nx.below hB).num c18.num).mono ?_; rintro e_ w5 ⟨v75, rfl, hn, hb⟩
            clear q0_ q1_
            have c75 := hn.fp
            replace hB := hB.trans (hb.mono hB.size)
            replace hk1 := hk1.keep hb
            replace c18 := c18.below hb
            clear hb hn
            have q0_ := hk1.cell 1 rfl
            have q1_ := hk1.cell 1 rfl
            go_wp2_with fail
            refine (omul_f (ny.below hB).num (ny.below hB).num c18.num).mono ?_; rintro e_ w6 ⟨v84, rfl, hn, hb⟩
            clear q0_ q1_
            have c84 := hn.fp
            replace hB := hB.trans (hb.mono hB.size)
            replace hk1 := hk1.keep hb
            replace c18 := c18.below hb
            replace c75 := c75.below hb
            clear hb hn
            go_wp2_with fail
            refine (osub_f c84.num c75.num c18.num).mono ?_; rintro e_ w7 ⟨v91, rfl, hn, hb⟩
            have c91 := hn.fp
            replace hB := hB.trans (hb.mono hB.size)
            replace hk1 := hk1.keep hb
            replace c18 := c18.below hb
            replace c75 := c75.below hb
            replace c84 := c84.below hb
            clear hb hn
            go_wp2_with (refine wpList_lit rfl 27 36 _ rfl Tryd.underlying27 info32e 121666 rfl ?_)
            intro w8 hl hb
            have c96 := (NatRes.lit (c := 121666) hl (Nat.zero_le _) (by omega) (by omega)).can (k := 1) (by exact ⟨by decide +kernel⟩) (by omega)
            obtain ⟨v96, hv96⟩ : ∃ v, v = Value.slice (some ⟨w7.heap.size, 0, none⟩) 1 1 := ⟨_, rfl⟩
            rw [← hv96] at c96 ⊢
            clear hv96 hl
            replace hB := hB.trans (hb.mono hB.size)
            replace hk1 := hk1.keep hb
            replace c18 := c18.below hb
            replace c75 := c75.below hb
            replace c84 := c84.below hb
            replace c91 := c91.below hb
            clear hb
            replace c96 : CanAt w8 v96 (K6).val := c96
            go_wp2_with fail
            refine (omul_f c91.num c96.num c18.num).mono ?_; rintro e_ w9 ⟨v98, rfl, hn, hb⟩
            have c98 := hn.fp
            replace hB := hB.trans (hb.mono hB.size)
            replace hk1 := hk1.keep hb
            replace c18 := c18.below hb
            replace c75 := c75.below hb
            replace c84 := c84.below hb
            replace c91 := c91.below hb
            replace c96 := c96.below hb
            clear hb hn
            go_wp2_with fail
            refine (omul_f c75.num c84.num c18.num).mono ?_; rintro e_ w10 ⟨v105, rfl, hn, hb⟩
            have c105 := hn.fp
            replace hB := hB.trans (hb.mono hB.size)
            replace hk1 := hk1.keep hb
            replace c18 := c18.below hb
            replace c75 := c75.below hb
            replace c84 := c84.below hb
            replace c91 := c91.below hb
            replace c96 := c96.below hb
            replace c98 := c98.below hb
            clear hb hn
            go_wp2_with (refine wpList_lit rfl 27 36 _ rfl Tryd.underlying27 info32e 121665 rfl ?_)
            intro w11 hl hb
            have c110 := (NatRes.lit (c := 121665) hl (Nat.zero_le _) (by omega) (by omega)).can (k := 1) (by exact ⟨by decide +kernel⟩) (by omega)
            obtain ⟨v110, hv110⟩ : ∃ v, v = Value.slice (some ⟨w10.heap.size, 0, none⟩) 1 1 := ⟨_, rfl⟩
            rw [← hv110] at c110 ⊢
            clear hv110 hl
            replace hB := hB.trans (hb.mono hB.size)
            replace hk1 := hk1.keep hb
            replace c18 := c18.below hb
            replace c75 := c75.below hb
            replace c84 := c84.below hb
            replace c91 := c91.below hb
            replace c96 := c96.below hb
            replace c98 := c98.below hb
            replace c105 := c105.below hb
            clear hb
            replace c110 : CanAt w11 v110 (K5).val := c110
            go_wp2_with fail
            refine (omul_f c105.num c110.num c18.num).mono ?_; rintro e_ w12 ⟨v112, rfl, hn, hb⟩
            have c112 := hn.fp
            replace hB := hB.trans (hb.mono hB.size)
            replace hk1 := hk1.keep hb
            replace c18 := c18.below hb
            replace c75 := c75.below hb
            replace c84 := c84.below hb
            replace c91 := c91.below hb
            replace c96 := c96.below hb
            replace c98 := c98.below hb
            replace c105 := c105.below hb
            replace c110 := c110.below hb
            clear hb hn
            go_wp2_with (refine wpList_lit rfl 27 36 _ rfl Tryd.underlying27 info32e 121666 rfl ?_)
            intro w13 hl hb
            have c116 := (NatRes.lit (c := 121666) hl (Nat.zero_le _) (by omega) (by omega)).can (k := 1) (by exact ⟨by decide +kernel⟩) (by omega)
            obtain ⟨v116, hv116⟩ : ∃ v, v = Value.slice (some ⟨w12.heap.size, 0, none⟩) 1 1 := ⟨_, rfl⟩
            rw [← hv116] at c116 ⊢
            clear hv116 hl
            replace hB := hB.trans (hb.mono hB.size)
            replace hk1 := hk1.keep hb
            replace c18 := c18.below hb
            replace c75 := c75.below hb
            replace c84 := c84.below hb
            replace c91 := c91.below hb
            replace c96 := c96.below hb
            replace c98 := c98.below hb
            replace c105 := c105.below hb
            replace c110 := c110.below hb
            replace c112 := c112.below hb
            clear hb
            replace c116 : CanAt w13 v116 (K6).val := c116
            go_wp2_with fail
            refine (osub_f c116.num c112.num c18.num).mono ?_; rintro e_ w14 ⟨v119, rfl, hn, hb⟩
            have c119 := hn.fp
            replace hB := hB.trans (hb.mono hB.size)
            replace hk1 := hk1.keep hb
            replace c18 := c18.below hb
            replace c75 := c75.below hb
            replace c84 := c84.below hb
            replace c91 := c91.below hb
            replace c96 := c96.below hb
            replace c98 := c98.below hb
            replace c105 := c105.below hb
            replace c110 := c110.below hb
            replace c112 := c112.below hb
            replace c116 := c116.below hb
            clear hb hn
            by_cases ho : OnC (x, y)
            · skip
              have HE : Hid (onB x.val y.val false = true) := Lib.hid (onB_of (P := (x, y)) ho)
              have hd_ : decide (((((y * y) - (x * x)) * K6)).val = ((K6 - (((x * x) * (y * y)) * K5))).val) = true := by
                have h1 := on_121 (x, y)
                exact decide_eq_true (congrArg Fin.val (h1.1 ho))
              have h_ := sameNat_can c98 c119
              rw [hd_] at h_
              clear hd_ ho
              go_wp2_with fail
              refine h_.mono ?_; rintro e_ w_ ⟨rfl, hd_⟩
              have hb := hd_.b
              replace hB := hB.trans (hb.mono hB.size)
              go_wp2_with fail
              go_ret
              exact ⟨by rw [HE.out]; first | done | rfl, hB⟩
            · skip
              have HE : Hid (onB x.val y.val false = false) := Lib.hid (onB_no (fun h => ho h))
              have hd_ : decide (((((y * y) - (x * x)) * K6)).val = ((K6 - (((x * x) * (y * y)) * K5))).val) = false := by
                have h1 := on_121 (x, y)
                exact decide_eq_false (fun h => ho (h1.2 (fp_ext h)))
              have h_ := sameNat_can c98 c119
              rw [hd_] at h_
              clear hd_ ho
              go_wp2_with fail
              refine h_.mono ?_; rintro e_ w_ ⟨rfl, hd_⟩
              have hb := hd_.b
              replace hB := hB.trans (hb.mono hB.size)
              go_wp2_with fail
              go_ret
              exact ⟨by rw [HE.out]; first | done | rfl, hB⟩
        · skip
          replace ctx := (hB.cell (World.block_lt_of_cell? w _ ctx)).trans ctx
          have px1 : ((jx_ + 1 : Nat) : Int) - 1 = (jx_ : Int) := by omega
          have px2 : decide ((0 : Int) < ((jx_ + 1 : Nat) : Int)) = true := decide_eq_true (by omega)
          rcases HLY.out with rfl | ⟨by_, oy_, jy_, zy_, rfl, rfl, cty, gy0, by0⟩
          · skip
            have q0_ := hk1.cell 0 rfl
            have q1_ := hk1.cell 1 rfl
            have q0_ := hk1.cell 0 rfl
            have q1_ := hk1.cell 0 rfl
            go_wp2_with fail
            refine (omul_f (nx.below hB).num (nx.below hB).num c18.num).mono ?_; rintro e_ w5 ⟨v75, rfl, hn, hb⟩
            clear q0_ q1_
            have c75 := hn.fp
            replace hB := hB.trans (hb.mono hB.size)
            replace hk1 := hk1.keep hb
            replace c18 := c18.below hb
            clear hb hn
            have q0_ := hk1.cell 1 rfl
            have q1_ := hk1.cell 1 rfl
            go_wp2_with fail
            refine (omul_f (ny.below hB).num (ny.below hB).num c18.num).mono ?_; rintro e_ w6 ⟨v84, rfl, hn, hb⟩
            clear q0_ q1_
            have c84 := hn.fp
            replace hB := hB.trans (hb.mono hB.size)
            replace hk1 := hk1.keep hb
            replace c18 := c18.below hb
            replace c75 := c75.below hb
            clear hb hn
            go_wp2_with fail
            refine (osub_f c84.num c75.num c18.num).mono ?_; rintro e_ w7 ⟨v91, rfl, hn, hb⟩
            have c91 := hn.fp
            replace hB := hB.trans (hb.mono hB.size)
            replace hk1 := hk1.keep hb
            replace c18 := c18.below hb
            replace c75 := c75.below hb
            replace c84 := c84.below hb
            clear hb hn
            go_wp2_with (refine wpList_lit rfl 27 36 _ rfl Tryd.underlying27 info32e 121666 rfl ?_)
            intro w8 hl hb
            have c96 := (NatRes.lit (c := 121666) hl (Nat.zero_le _) (by omega) (by omega)).can (k := 1) (by exact ⟨by decide +kernel⟩) (by omega)
            obtain ⟨v96, hv96⟩ : ∃ v, v = Value.slice (some ⟨w7.heap.size, 0, none⟩) 1 1 := ⟨_, rfl⟩
            rw [← hv96] at c96 ⊢
            clear hv96 hl
            replace hB := hB.trans (hb.mono hB.size)
            replace hk1 := hk1.keep hb
            replace c18 := c18.below hb
            replace c75 := c75.below hb
            replace c84 := c84.below hb
            replace c91 := c91.below hb
            clear hb
            replace c96 : CanAt w8 v96 (K6).val := c96
            go_wp2_with fail
            refine (omul_f c91.num c96.num c18.num).mono ?_; rintro e_ w9 ⟨v98, rfl, hn, hb⟩
            have c98 := hn.fp
            replace hB := hB.trans (hb.mono hB.size)
            replace hk1 := hk1.keep hb
            replace c18 := c18.below hb
            replace c75 := c75.below hb
            replace c84 := c84.below hb
            replace c91 := c91.below hb
            replace c96 := c96.below hb
            clear hb hn
            go_wp2_with fail
            refine (omul_f c75.num c84.num c18.num).mono ?_; rintro e_ w10 ⟨v105, rfl, hn, hb⟩
            have c105 := hn.fp
            replace hB := hB.trans (hb.mono hB.size)
            replace hk1 := hk1.keep hb
            replace c18 := c18.below hb
            replace c75 := c75.below hb
            replace c84 := c84.below hb
            replace c91 := c91.below hb
            replace c96 := c96.below hb
            replace c98 := c98.below hb
            clear hb hn
            go_wp2_with (refine wpList_lit rfl 27 36 _ rfl Tryd.underlying27 info32e 121665 rfl ?_)
            intro w11 hl hb
            have c110 := (NatRes.lit (c := 121665) hl (Nat.zero_le _) (by omega) (by omega)).can (k := 1) (by exact ⟨by decide +kernel⟩) (by omega)
            obtain ⟨v110, hv110⟩ : ∃ v, v = Value.slice (some ⟨w10.heap.size, 0, none⟩) 1 1 := ⟨_, rfl⟩
            rw [← hv110] at c110 ⊢
            clear hv110 hl
            replace hB := hB.trans (hb.mono hB.size)
            replace hk1 := hk1.keep hb
            replace c18 := c18.below hb
            replace c75 := c75.below hb
            replace c84 := c84.below hb
            replace c91 := c91.below hb
            replace c96 := c96.below hb
            replace c98 := c98.below hb
            replace c105 := c105.below hb
            clear hb
            replace c110 : CanAt w11 v110 (K5).val := c110
            go_wp2_with fail
            refine (omul_f c105.num c110.num c18.num).mono ?_; rintro e_ w12 ⟨v112, rfl, hn, hb⟩
            have c112 := hn.fp
            replace hB := hB.trans (hb.mono hB.size)
            replace hk1 := hk1.keep hb
            replace c18 := c18.below hb
            replace c75 := c75.below hb
            replace c84 := c84.below hb
            replace c91 := c91.below hb
            replace c96 := c96.below hb
            replace c98 := c98.below hb
            replace c105 := c105.below hb
            replace c110 := c110.below hb
            clear hb hn
            go_wp2_with (refine wpList_lit rfl 27 36 _ rfl Tryd.underlying27 info32e 121666 rfl ?_)
            intro w13 hl hb
            have c116 := (NatRes.lit (c := 121666) hl (Nat.zero_le _) (by omega) (by omega)).can (k := 1) (by exact ⟨by decide +kernel⟩) (by omega)
            obtain ⟨v116, hv116⟩ : ∃ v, v = Value.slice (some ⟨w12.heap.size, 0, none⟩) 1 1 := ⟨_, rfl⟩
            rw [← hv116] at c116 ⊢
            clear hv116 hl
            replace hB := hB.trans (hb.mono hB.size)
            replace hk1 := hk1.keep hb
            replace c18 := c18.below hb
            replace c75 := c75.below hb
            replace c84 := c84.below hb
            replace c91 := c91.below hb
            replace c96 := c96.below hb
            replace c98 := c98.below hb
            replace c105 := c105.below hb
            replace c110 := c110.below hb
            replace c112 := c112.below hb
            clear hb
            replace c116 : CanAt w13 v116 (K6).val := c116
            go_wp2_with fail
            refine (osub_f c116.num c112.num c18.num).mono ?_; rintro e_ w14 ⟨v119, rfl, hn, hb⟩
            have c119 := hn.fp
            replace hB := hB.trans (hb.mono hB.size)
            replace hk1 := hk1.keep hb
            replace c18 := c18.below hb
            replace c75 := c75.below hb
            replace c84 := c84.below hb
            replace c91 := c91.below hb
            replace c96 := c96.below hb
            replace c98 := c98.below hb
            replace c105 := c105.below hb
            replace c110 := c110.below hb
            replace c112 := c112.below hb
            replace c116 := c116.below hb
            clear hb hn
            by_cases ho : OnC (x, y)
            · skip
              have HE : Hid (onB x.val y.val false = true) := Lib.hid (onB_of (P := (x, y)) ho)
              have hd_ : decide (((((y * y) - (x * x)) * K6)).val = ((K6 - (((x * x) * (y * y)) * K5))).val) = true := by
                have h1 := on_121 (x, y)
                exact decide_eq_true (congrArg Fin.val (h1.1 ho))
              have h_ := sameNat_can c98 c119
              rw [hd_] at h_
              clear hd_ ho
              go_wp2_with fail
              refine h_.mono ?_; rintro e_ w_ ⟨rfl, hd_⟩
              have hb := hd_.b
              replace hB := hB.trans (hb.mono hB.size)
              go_wp2_with fail
              go_ret
              exact ⟨by rw [HE.out]; first | done | rfl, hB⟩
            · skip
              have HE : Hid (onB x.val y.val false = false) := Lib.hid (onB_no (fun h => ho h))
              have hd_ : decide (((((y * y) - (x * x)) * K6)).val = ((K6 - (((x * x) * (y * y)) * K5))).val) = false := by
                have h1 := on_121 (x, y)
                exact decide_eq_false (fun h => ho (h1.2 (fp_ext h)))
              have h_ := sameNat_can c98 c119
              rw [hd_] at h_
              clear hd_ ho
              go_wp2_with fail
              refine h_.mono ?_; rintro e_ w_ ⟨rfl, hd_⟩
              have hb := hd_.b
              replace hB := hB.trans (hb.mono hB.size)
              go_wp2_with fail
              go_ret
              exact ⟨by rw [HE.out]; first | done | rfl, hB⟩
          · skip
            replace cty := (hB.cell (World.block_lt_of_cell? w _ cty)).trans cty
            have py1 : ((jy_ + 1 : Nat) : Int) - 1 = (jy_ : Int) := by omega
            have py2 : decide ((0 : Int) < ((jy_ + 1 : Nat) : Int)) = true := decide_eq_true (by omega)
            have q0_ := hk1.cell 0 rfl
            have q1_ := hk1.cell 1 rfl
            have q0_ := hk1.cell 0 rfl
            have q1_ := hk1.cell 0 rfl
            go_wp2_with fail
            refine (omul_f (nx.below hB).num (nx.below hB).num c18.num).mono ?_; rintro e_ w5 ⟨v75, rfl, hn, hb⟩
            clear q0_ q1_
            have c75 := hn.fp
            replace hB := hB.trans (hb.mono hB.size)
            replace hk1 := hk1.keep hb
            replace c18 := c18.below hb
            clear hb hn
            have q0_ := hk1.cell 1 rfl
            have q1_ := hk1.cell 1 rfl
            go_wp2_with fail
            refine (omul_f (ny.below hB).num (ny.below hB).num c18.num).mono ?_; rintro e_ w6 ⟨v84, rfl, hn, hb⟩
            clear q0_ q1_
            have c84 := hn.fp
            replace hB := hB.trans (hb.mono hB.size)
            replace hk1 := hk1.keep hb
            replace c18 := c18.below hb
            replace c75 := c75.below hb
            clear hb hn
            go_wp2_with fail
            refine (osub_f c84.num c75.num c18.num).mono ?_; rintro e_ w7 ⟨v91, rfl, hn, hb⟩
            have c91 := hn.fp
            replace hB := hB.trans (hb.mono hB.size)
            replace hk1 := hk1.keep hb
            replace c18 := c18.below hb
            replace c75 := c75.below hb
            replace c84 := c84.below hb
            clear hb hn
            go_wp2_with (refine wpList_lit rfl 27 36 _ rfl Tryd.underlying27 info32e 121666 rfl ?_)
            intro w8 hl hb
            have c96 := (NatRes.lit (c := 121666) hl (Nat.zero_le _) (by omega) (by omega)).can (k := 1) (by exact ⟨by decide +kernel⟩) (by omega)
            obtain ⟨v96, hv96⟩ : ∃ v, v = Value.slice (some ⟨w7.heap.size, 0, none⟩) 1 1 := ⟨_, rfl⟩
            rw [← hv96] at c96 ⊢
            clear hv96 hl
            replace hB := hB.trans (hb.mono hB.size)
            replace hk1 := hk1.keep hb
            replace c18 := c18.below hb
            replace c75 := c75.below hb
            replace c84 := c84.below hb
            replace c91 := c91.below hb
            clear hb
            replace c96 : CanAt w8 v96 (K6).val := c96
            go_wp2_with fail
            refine (omul_f c91.num c96.num c18.num).mono ?_; rintro e_ w9 ⟨v98, rfl, hn, hb⟩
            have c98 := hn.fp
            replace hB := hB.trans (hb.mono hB.size)
            replace hk1 := hk1.keep hb
            replace c18 := c18.below hb
            replace c75 := c75.below hb
            replace c84 := c84.below hb
            replace c91 := c91.below hb
            replace c96 := c96.below hb
            clear hb hn
            go_wp2_with fail
            refine (omul_f c75.num c84.num c18.num).mono ?_; rintro e_ w10 ⟨v105, rfl, hn, hb⟩
            have c105 := hn.fp
            replace hB := hB.trans (hb.mono hB.size)
            replace hk1 := hk1.keep hb
            replace c18 := c18.below hb
            replace c75 := c75.below hb
            replace c84 := c84.below hb
            replace c91 := c91.below hb
            replace c96 := c96.below hb
            replace c98 := c98.below hb
            clear hb hn
            go_wp2_with (refine wpList_lit rfl 27 36 _ rfl Tryd.underlying27 info32e 121665 rfl ?_)
            intro w11 hl hb
            have c110 := (NatRes.lit (c := 121665) hl (Nat.zero_le _) (by omega) (by omega)).can (k := 1) (by exact ⟨by decide +kernel⟩) (by omega)
            obtain ⟨v110, hv110⟩ : ∃ v, v = Value.slice (some ⟨w10.heap.size, 0, none⟩) 1 1 := ⟨_, rfl⟩
            rw [← hv110] at c110 ⊢
            clear hv110 hl
            replace hB := hB.trans (hb.mono hB.size)
            replace hk1 := hk1.keep hb
            replace c18 := c18.below hb
            replace c75 := c75.below hb
            replace c84 := c84.below hb
            replace c91 := c91.below hb
            replace c96 := c96.below hb
            replace c98 := c98.below hb
            replace c105 := c105.below hb
            clear hb
            replace c110 : CanAt w11 v110 (K5).val := c110
            go_wp2_with fail
            refine (omul_f c105.num c110.num c18.num).mono ?_; rintro e_ w12 ⟨v112, rfl, hn, hb⟩
            have c112 := hn.fp
            replace hB := hB.trans (hb.mono hB.size)
            replace hk1 := hk1.keep hb
            replace c18 := c18.below hb
            replace c75 := c75.below hb
            replace c84 := c84.below hb
            replace c91 := c91.below hb
            replace c96 := c96.below hb
            replace c98 := c98.below hb
            replace c105 := c105.below hb
            replace c110 := c110.below hb
            clear hb hn
            go_wp2_with (refine wpList_lit rfl 27 36 _ rfl Tryd.underlying27 info32e 121666 rfl ?_)
            intro w13 hl hb
            have c116 := (NatRes.lit (c := 121666) hl (Nat.zero_le _) (by omega) (by omega)).can (k := 1) (by exact ⟨by decide +kernel⟩) (by omega)
            obtain ⟨v116, hv116⟩ : ∃ v, v = Value.slice (some ⟨w12.heap.size, 0, none⟩) 1 1 := ⟨_, rfl⟩
            rw [← hv116] at c116 ⊢
            clear hv116 hl
            replace hB := hB.trans (hb.mono hB.size)
            replace hk1 := hk1.keep hb
            replace c18 := c18.below hb
            replace c75 := c75.below hb
            replace c84 := c84.below hb
            replace c91 := c91.below hb
            replace c96 := c96.below hb
            replace c98 := c98.below hb
            replace c105 := c105.below hb
            replace c110 := c110.below hb
            replace c112 := c112.below hb
            clear hb
            replace c116 : CanAt w13 v116 (K6).val := c116
            go_wp2_with fail
            refine (osub_f c116.num c112.num c18.num).mono ?_; rintro e_ w14 ⟨v119, rfl, hn, hb⟩
            have c119 := hn.fp
            replace hB := hB.trans (hb.mono hB.size)
            replace hk1 := hk1.keep hb
            replace c18 := c18.below hb
            replace c75 := c75.below hb
            replace c84 := c84.below hb
            replace c91 := c91.below hb
            replace c96 := c96.below hb
            replace c98 := c98.below hb
            replace c105 := c105.below hb
            replace c110 := c110.below hb
            replace c112 := c112.below hb
            replace c116 := c116.below hb
            clear hb hn
            by_cases ho : OnC (x, y)
            · skip
              have HE : Hid (onB x.val y.val false = true) := Lib.hid (onB_of (P := (x, y)) ho)
              have hd_ : decide (((((y * y) - (x * x)) * K6)).val = ((K6 - (((x * x) * (y * y)) * K5))).val) = true := by
                have h1 := on_121 (x, y)
                exact decide_eq_true (congrArg Fin.val (h1.1 ho))
              have h_ := sameNat_can c98 c119
              rw [hd_] at h_
              clear hd_ ho
              go_wp2_with fail
              refine h_.mono ?_; rintro e_ w_ ⟨rfl, hd_⟩
              have hb := hd_.b
              replace hB := hB.trans (hb.mono hB.size)
              go_wp2_with fail
              go_ret
              exact ⟨by rw [HE.out]; first | done | rfl, hB⟩
            · skip
              have HE : Hid (onB x.val y.val false = false) := Lib.hid (onB_no (fun h => ho h))
              have hd_ : decide (((((y * y) - (x * x)) * K6)).val = ((K6 - (((x * x) * (y * y)) * K5))).val) = false := by
                have h1 := on_121 (x, y)
                exact decide_eq_false (fun h => ho (h1.2 (fp_ext h)))
              have h_ := sameNat_can c98 c119
              rw [hd_] at h_
              clear hd_ ho
              go_wp2_with fail
              refine h_.mono ?_; rintro e_ w_ ⟨rfl, hd_⟩
              have hb := hd_.b
              replace hB := hB.trans (hb.mono hB.size)
              go_wp2_with fail
              go_ret
              exact ⟨by rw [HE.out]; first | done | rfl, hB⟩
      · have HE := Lib.hid (onB_y (X := X) (inf := false) hy)
        have HX := Lib.hid (cmpI_lt hx)
        obtain ⟨cj, hcj⟩ : ∃ c, c = cmpI Y eP := ⟨_, rfl⟩
        have hdc : decide ((0 : Int) ≤ cj) = true := decide_eq_true (by rw [hcj]; exact cmpI_ge_ hy)
        have HCJ := Lib.hid hcj
        clear hy hx hcj
        go_enter Tryd.func29, Tryd.ntmps29
        have hB := Below.refl w.heap.size w
        go_wp2_with (refine wpList_box_agg rfl 29 _ rfl [vx, vy, .bool false] rfl ?_)
        intro w1 hk1 hb
        have hz_ := hB.size
        replace hB := hB.trans (hb.mono hB.size)
        clear hb
        obtain ⟨g1, hg_⟩ : ∃ g, g = w.heap.size := ⟨_, rfl⟩
        rw [← hg_] at hk1 ⊢
        have HG1 : Hid (w.heap.size ≤ g1) := Lib.hid (by rw [hg_]; exact hz_)
        clear hg_ hz_
        go_wp2_with fail
        refine (prime13_c w1).mono ?_; rintro e_ w2 ⟨v18, rfl, c18, hb⟩
        replace hB := hB.trans (hb.mono hB.size)
        replace hk1 := hk1.keep hb
        clear hb
        have h_ := cmp_v (nx.below hB).num c18.num
        rw [HX.out] at h_
        have q0_ := hk1.cell 2 rfl
        have q1_ := hk1.cell 0 rfl
        go_wp2_with fail
        refine (h_).mono ?_; rintro e_ w3 ⟨rfl, hd_⟩
        clear q0_ q1_
        have hb := hd_.b
        replace hB := hB.trans (hb.mono hB.size)
        replace hk1 := hk1.keep hb
        replace c18 := c18.below hb
        clear hb hd_ h_
        have h_ := cmp_v (ny.below hB).num c18.num
        rw [← HCJ.out] at h_
        have q0_ := hk1.cell 1 rfl
        go_wp2_with fail
        refine (h_).mono ?_; rintro e_ w4 ⟨rfl, hd_⟩
        clear q0_
        have hb := hd_.b
        replace hB := hB.trans (hb.mono hB.size)
        replace hk1 := hk1.keep hb
        replace c18 := c18.below hb
        clear hb hd_ h_
        go_wp2_with fail
        go_ret
        exact ⟨by rw [HE.out]; first | done | rfl, hB⟩
    · have HE := Lib.hid (onB_x (Y := Y) (inf := false) hx)
      obtain ⟨cj, hcj⟩ : ∃ c, c = cmpI X eP := ⟨_, rfl⟩
      have hdc : decide ((0 : Int) ≤ cj) = true := decide_eq_true (by rw [hcj]; exact cmpI_ge_ hx)
      have HCJ := Lib.hid hcj
      clear hx hcj
      go_enter Tryd.func29, Tryd.ntmps29
      have hB := Below.refl w.heap.size w
      go_wp2_with (refine wpList_box_agg rfl 29 _ rfl [vx, vy, .bool false] rfl ?_)
      intro w1 hk1 hb
      have hz_ := hB.size
      replace hB := hB.trans (hb.mono hB.size)
      clear hb
      obtain ⟨g1, hg_⟩ : ∃ g, g = w.heap.size := ⟨_, rfl⟩
      rw [← hg_] at hk1 ⊢
      have HG1 : Hid (w.heap.size ≤ g1) := Lib.hid (by rw [hg_]; exact hz_)
      clear hg_ hz_
      go_wp2_with fail
      refine (prime13_c w1).mono ?_; rintro e_ w2 ⟨v18, rfl, c18, hb⟩
      replace hB := hB.trans (hb.mono hB.size)
      replace hk1 := hk1.keep hb
      clear hb
      have h_ := cmp_v (nx.below hB).num c18.num
      rw [← HCJ.out] at h_
      have q0_ := hk1.cell 2 rfl
      have q1_ := hk1.cell 0 rfl
      go_wp2_with fail
      refine (h_).mono ?_; rintro e_ w3 ⟨rfl, hd_⟩
      clear q0_ q1_
      have hb := hd_.b
      replace hB := hB.trans (hb.mono hB.size)
      replace hk1 := hk1.keep hb
      replace c18 := c18.below hb
      clear hb hd_ h_
      go_wp2_with fail
      go_ret
      exact ⟨by rw [HE.out]; first | done | rfl, hB⟩
end Go.Proofs.YtlolkighnnedfaaDoor
