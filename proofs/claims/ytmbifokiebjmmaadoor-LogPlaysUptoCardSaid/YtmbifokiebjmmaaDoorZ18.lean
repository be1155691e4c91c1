import Derived.Test.YtmbifokiebjmmaaDoorZ16
import Derived.Test.YtmbifokiebjmmaaDoorZ14
import Derived.Test.YtmbifokiebjmmaaDoorZ11
/- package log: in, fold by their contracts. -/
set_option linter.unusedVariables false
set_option linter.unusedSimpArgs false
namespace Go.Proofs.YtmbifokiebjmmaaDoor
open Go.RowKit Go.Sg
def FoldPost (r : Option (List Int)) (w : World) (e : Ending) (w' : World) : Prop := ∃ x ok, e = .returned (.tuple #[dval x, .bool ok]) ∧ Dig x ∧ r = (if ok = true then some x else none) ∧ Below w.heap.size w w'
theorem grdD : Tryd.prog.eqGuardType Tryd.prog.depth 64 = false := by kernel_rfl
theorem bltD : Tryd.prog.built 64 [] = some (noDig.map (Value.int .u8)).toArray := by kernel_rfl

/-- split as a number that is known ahead of the call. -/
theorem split_any (n : Nat) (h2 : 2 ≤ n) (hm : n ≤ 9223372036854775807) : ∃ k j : Nat, k = 2 ^ j ∧ k < n ∧ n ≤ 2 ^ (j + 1) ∧ ∀ w, Calls Tryd.prog 59 #[.int .i64 (n : Int)] w (fun e w' => e = .returned (.int .i64 (k : Int)) ∧ w' = w) := by
  have uniq : ∀ a b : Nat, 2 ^ a < n → n ≤ 2 ^ (a + 1) → 2 ^ b < n → n ≤ 2 ^ (b + 1) → a = b := fun a b a1 a2 b1 b2 => by
    have h1 := (Nat.pow_lt_pow_iff_right (a := 2) (by omega)).1 (Nat.lt_of_lt_of_le a1 b2)
    have h2 := (Nat.pow_lt_pow_iff_right (a := 2) (by omega)).1 (Nat.lt_of_lt_of_le b1 a2)
    omega
  have l1 := Nat.log2_self_le (n := n - 1) (by omega)
  have l2 := Nat.lt_log2_self (n := n - 1)
  refine ⟨2 ^ Nat.log2 (n - 1), Nat.log2 (n - 1), rfl, by omega, by omega, fun w => ?_⟩
  refine (split_c n w h2 hm).mono ?_
  rintro e w' ⟨k, j, rfl, rfl, h3, h4, rfl⟩
  obtain rfl := uniq j (Nat.log2 (n - 1)) h3 h4 (by omega) (by omega)
  exact ⟨rfl, rfl⟩

set_option maxHeartbeats 16000000 in
set_option maxRecDepth 20000 in
theorem fold_c : ∀ (N n : Nat), n ≤ N → ∀ (h i : Nat) (d : List Int) (a : Option Addr) (cap : Nat) (p : List (List Int)) (w : World), 1 ≤ n → n ≤ 2 ^ h → i < n → n ≤ 9223372036854775807 → Dig d → SlD w a cap p → ShaTabs w →
    Calls Tryd.prog 48 #[.int .i64 (n : Int), .int .i64 (i : Int), dval d, .slice a p.length cap] w (FoldPost (foldH pairD h n i d p) w)
  | 0, n, hN, _, _, _, _, _, _, _, h1, _, _, _, _, _, _ => by omega
  | N + 1, n, hN, h, i, d, a, cap, p, w, h1, hh, hi, hm, dd, sp, ht => by
    have IH := fold_c N
    obtain ⟨L, hL⟩ : ∃ L, L = p.length := ⟨_, rfl⟩
    have HL := Lib.hid hL
    rw [← hL]
    clear hL
    go_enter Tryd.func48, Tryd.ntmps48
    go_wp2_with (refine wpList_box_D rfl 64 _ rfl d rfl ?_)
    intro w1 hk1 hs_ hb1
    have HS_w1 := Lib.hid hs_
    clear hs_
    obtain ⟨g1, hg1⟩ : ∃ g, g = w.heap.size := ⟨_, rfl⟩
    rw [← hg1] at hk1 ⊢
    have l1 : w.heap.size ≤ g1 := Nat.le_of_eq hg1.symm
    clear hg1
    go_wp2_with (with_reducible refine wpList_alloc_rw rfl 64 rfl (noDig.map (Value.int .u8)) _ zeroD ?_)
    intro w2 hk2 hs_ hb2
    have HS_w2 := Lib.hid hs_
    clear hs_
    obtain ⟨g2, hg2⟩ : ∃ g, g = w1.heap.size := ⟨_, rfl⟩
    rw [← hg2] at hk2 ⊢
    have l2 : w.heap.size ≤ g2 := by rw [hg2]; exact hb1.size
    have hB := hb1.trans (hb2.mono hb1.size)
    have n12 : g1 ≠ g2 := by rw [hg2]; exact Nat.ne_of_lt hk1.lt
    have hk1 := hk1.keep hb2
    clear hg2 hb1 hb2
    by_cases hone : n = 1
    · subst hone
      rw [show ((1 : Nat) : Int) = 1 from rfl]
      have e : Hid (foldH pairD h 1 i d p = if ((L : Int) == 0) = true then some d else none) := Lib.hid (by
        rw [foldH_any hh (show 1 ≤ 2 ^ 0 by omega), foldH, HL.out]
        by_cases h0 : p = []
        · subst h0; rfl
        · rw [if_neg h0]
          have : 0 < p.length := List.length_pos_iff.2 h0
          rw [if_neg (by simp; omega)])
      go_wp2_with (first | (refine wpList_load_V rfl 64 _ rfl g1 64 d rfl hk1 dd _ Tryd.underlying64 rfl sizeD ?_) | (refine wpList_store_V rfl 64 _ _ rfl g2 64 noDig d rfl rfl hk2 dig_no dd sizeD ?_))
      intro w3 hk3 hg3 hs3
      go_wp2_with fail
      refine bodyPost_ret (v := .tuple #[dval d, .bool ((L : Int) == 0)]) (results_dig_tmp (p := 8) (u := 9) rfl rfl hk3 dd Tryd.underlying64 rfl sizeD) rfl ⟨d, _, rfl, dd, e.out, ?_⟩
      exact hB.grown hg3 hB.size (by intro g hg; cases hg; exact l2)
    · have n1 : ((n : Int) == 1) = false := by simp; omega
      rcases snoc_cases p with rfl | ⟨q, z, rfl⟩
      · obtain rfl : L = 0 := HL.out
        have e : Hid (foldH pairD h n i d [] = none) := Lib.hid (foldH_nil (by omega) h hh)
        go_wp2_with (first | (refine wpList_build0 rfl 64 rfl bltD ?_) | (refine wpList_store_V rfl 64 _ _ rfl g2 64 noDig noDig rfl rfl hk2 dig_no dig_no sizeD ?_))
        intro w3 hk3 hg3 hs3
        go_wp2_with fail
        refine bodyPost_ret (v := .tuple #[dval noDig, .bool false]) (results_dig_tmp (p := 8) (u := 9) rfl rfl hk3 dig_no Tryd.underlying64 rfl sizeD) rfl ⟨noDig, false, rfl, dig_no, by rw [e.out]; rfl, ?_⟩
        exact hB.grown hg3 hB.size (by intro g hg; cases hg; exact l2)
      · obtain ⟨M, hM⟩ : ∃ M, M = q.length := ⟨_, rfl⟩
        have HM := Lib.hid hM
        obtain rfl : L = M + 1 := by rw [HL.out, hM]; simp
        have dz : Dig z := sp.dig z (by simp)
        obtain ⟨b, off, rfl, hr⟩ := sp.last
        rw [← hM] at hr
        have hr2 : w2.rangeAt b (off + M * 32) (z.map (Value.int .u8)) := World.rangeAt.keep hr dz hB
        have ml : M + 1 ≤ cap := by have := sp.le; simp at this; omega
        have sq := sp.take M
        rw [show (q ++ [z]).take M = q by rw [hM]; exact List.take_left] at sq
        have hcut := fun W => run_toD (P := Tryd.prog) W 66 64 Tryd.underlying66 sizeD (some ⟨b, off, none⟩) (M + 1) cap M (by omega)
        obtain ⟨k, j, hk, hkn, hnk, hs⟩ := split_any n (by omega) hm
        have M0 : ¬ ((M : Int) + 1 = 0) := by omega
        have M1 : (((M : Int) + 1) == 0) = false := by simp; omega
        have lm : (M : Int) < (M : Int) + 1 := by omega
        have wM : IntKind.i64.wrap (M : Int) = (M : Int) := by rw [IntKind.wrap_i64]; have := sp.max; omega
        clear hM
        go_wp2_with fail
        refine wp_region_held_drew (S := fun W => W.rangeAt b (off + M * 32) (z.map (Value.int .u8))) (by kernel_rfl) (hr2) (fun hS => ?_)
        refine wpAnyH_take (i := 0) (v := ?_) rfl (by kernel_rfl) (by kernel_rfl) (by kernel_rfl) (fun _ _ _ h => h) (Or.inl ⟨by rfl, ?_⟩) hS ?_
        rotate_left
        · intro w _; go_simp; try with_reducible rfl
        simp only [List.getElem_toArray, List.getElem_cons_zero, List.getElem_cons_succ, Act.put, List.setIfInBounds_toArray, List.set_cons_zero, List.set_cons_succ]
        refine wpAnyH_take (i := 1) (v := ?_) rfl (by kernel_rfl) (by kernel_rfl) (by kernel_rfl) (fun _ _ _ h => h) (Or.inl ⟨by rfl, ?_⟩) hS ?_
        rotate_left
        · intro w _; go_simp; try with_reducible rfl
        simp only [List.getElem_toArray, List.getElem_cons_zero, List.getElem_cons_succ, Act.put, List.setIfInBounds_toArray, List.set_cons_zero, List.set_cons_succ]
        refine wpAnyH_take (i := 2) (v := ?_) rfl (by kernel_rfl) (by kernel_rfl) (by kernel_rfl) (fun _ _ _ h => h) (Or.inl ⟨by rfl, ?_⟩) hS ?_
        rotate_left
        · intro w _; go_simp; try with_reducible rfl
        simp only [List.getElem_toArray, List.getElem_cons_zero, List.getElem_cons_succ, Act.put, List.setIfInBounds_toArray, List.set_cons_zero, List.set_cons_succ]
        refine wpAnyH_take (i := 3) (v := ?_) rfl (by kernel_rfl) (by kernel_rfl) (by kernel_rfl) (fun _ _ _ h => h) (Or.inl ⟨by rfl, ?_⟩) hS ?_
        rotate_left
        · intro w _; go_simp; try with_reducible rfl
        simp only [List.getElem_toArray, List.getElem_cons_zero, List.getElem_cons_succ, Act.put, List.setIfInBounds_toArray, List.set_cons_zero, List.set_cons_succ]
        refine wpAnyH_take (i := 4) (v := ?_) rfl (by kernel_rfl) (by kernel_rfl) (by kernel_rfl) (fun _ _ _ h => h) (Or.inl ⟨by rfl, ?_⟩) hS ?_
        rotate_left
        · intro w _; go_simp; try with_reducible rfl
        simp only [List.getElem_toArray, List.getElem_cons_zero, List.getElem_cons_succ, Act.put, List.setIfInBounds_toArray, List.set_cons_zero, List.set_cons_succ]
        refine wpAnyH_take (i := 6) (v := ?_) rfl (by kernel_rfl) (by kernel_rfl) (by kernel_rfl) (fun _ _ _ h => h) (Or.inl ⟨by rfl, ?_⟩) hS ?_
        rotate_left
        · intro w _; go_simp; try with_reducible rfl
        simp only [List.getElem_toArray, List.getElem_cons_zero, List.getElem_cons_succ, Act.put, List.setIfInBounds_toArray, List.set_cons_zero, List.set_cons_succ]
        refine wpAnyH_take (i := 7) (v := ?_) rfl (by kernel_rfl) (by kernel_rfl) (by kernel_rfl) (fun _ _ _ h => h) (Or.inl ⟨by rfl, ?_⟩) hS ?_
        rotate_left
        · intro w _; go_simp; try with_reducible rfl
        simp only [List.getElem_toArray, List.getElem_cons_zero, List.getElem_cons_succ, Act.put, List.setIfInBounds_toArray, List.set_cons_zero, List.set_cons_succ]
        refine wpAnyH_take (i := 8) (v := ?_) rfl (by kernel_rfl) (by kernel_rfl) (by kernel_rfl) (fun _ _ _ h => h) (Or.inl ⟨by rfl, ?_⟩) hS ?_
        rotate_left
        · intro w _; go_simp; try with_reducible rfl
        simp only [List.getElem_toArray, List.getElem_cons_zero, List.getElem_cons_succ, Act.put, List.setIfInBounds_toArray, List.set_cons_zero, List.set_cons_succ]
        refine wpAnyH_take (i := 9) (v := ?_) rfl (by kernel_rfl) (by kernel_rfl) (by kernel_rfl) (fun _ _ _ h => h) (Or.inl ⟨by rfl, ?_⟩) hS ?_
        rotate_left
        · intro w _; go_simp; try with_reducible rfl
        simp only [List.getElem_toArray, List.getElem_cons_zero, List.getElem_cons_succ, Act.put, List.setIfInBounds_toArray, List.set_cons_zero, List.set_cons_succ]
        refine wpAnyH_take (i := 10) (v := ?_) rfl (by kernel_rfl) (by kernel_rfl) (by kernel_rfl) (fun _ _ _ h => h) (Or.inl ⟨by rfl, ?_⟩) hS ?_
        rotate_left
        · intro w _; go_simp; try with_reducible rfl
        simp only [List.getElem_toArray, List.getElem_cons_zero, List.getElem_cons_succ, Act.put, List.setIfInBounds_toArray, List.set_cons_zero, List.set_cons_succ]
        refine wpAnyH_take (i := 11) (v := ?_) rfl (by kernel_rfl) (by kernel_rfl) (by kernel_rfl) (fun _ _ _ h => h) (Or.inl ⟨by rfl, ?_⟩) hS ?_
        rotate_left
        · intro w _; go_simp; try with_reducible rfl
        simp only [List.getElem_toArray, List.getElem_cons_zero, List.getElem_cons_succ, Act.put, List.setIfInBounds_toArray, List.set_cons_zero, List.set_cons_succ]
        refine wpAnyH_take (i := 5) (v := dval z) rfl (by kernel_rfl) (by kernel_rfl) (by kernel_rfl) (fun _ _ _ h => h) (yieldsIf_load_D (by rfl) 64 _ rfl b (off + M * 32) rfl z dz _ (fun W h => h) Tryd.underlying64 rfl sizeD) hS ?_
        have blt : b < (World.drew w2).heap.size := World.block_lt_of_cell? _ _ (hr2 0 (.int .u8 (nth z 0)) (by rw [List.getElem?_map, List.getElem?_eq_getElem (by rw [dz.1]; omega), nth_get _ _ (by rw [dz.1]; omega)]; rfl))
        obtain ⟨g3, hg3⟩ : ∃ g, g = (World.drew w2).heap.size := ⟨_, rfl⟩
        have hk1d : Rw (World.drew w2) g1 64 (d.map (Value.int .u8)) := hk1
        have hk2d : Rw (World.drew w2) g2 64 (noDig.map (Value.int .u8)) := hk2
        have hBd : Below w.heap.size w (World.drew w2) := below_drewN hB 1
        have sqd : SlD (World.drew w2) (some ⟨b, off, none⟩) cap q := sq.below hBd
        obtain ⟨W, hW⟩ : ∃ W, W = World.drew w2 := ⟨_, rfl⟩
        rw [← hW] at hS blt hg3 hk1d hk2d hBd sqd ⊢
        have HG3 := Lib.hid hg3
        have HK := Lib.hid hk
        have W3 : Hid (w.heap.size ≤ g3 ∧ g1 ≠ g3 ∧ g2 ≠ g3 ∧ b ≠ g3) := Lib.hid ⟨by rw [hg3]; exact hBd.size, by rw [hg3]; exact Nat.ne_of_lt hk1d.lt, by rw [hg3]; exact Nat.ne_of_lt hk2d.lt, by rw [hg3]; exact Nat.ne_of_lt blt⟩
        clear hr2 hr hW hk1 hk2 hB sq hg3 hk
        refine wpAnyH_ready (rs := [12, 13]) (by kernel_rfl) (by simp) ?_
        refine AllReadyH.cons rfl (fun K hK => ?_) (AllReadyH.cons rfl (fun K hK => ?_) AllReadyH.nil) <;> rw [if_pos (by rfl)] <;> simp only [List.getElem_toArray, List.getElem_cons_zero, List.getElem_cons_succ]
        go_simp
        refine (hs _).mono ?_; rintro e w' ⟨rfl, hw'⟩; have hw2 := hw'.symm; subst hw2; clear hw'
        dsimp only
        refine hK.out _ _ hS (fun hS => ?_)
        refine wpAnyH_ready (rs := [13]) (by kernel_rfl) (by simp) ?_
        refine AllReadyH.cons rfl (fun K hK => ?_) AllReadyH.nil
        rw [if_pos (by rfl)]
        simp only [List.getElem_toArray, List.getElem_cons_zero, List.getElem_cons_succ]
        refine wp_alloc_D 64 rfl zeroD ?_
        intro w3 hk3 hs3 hb3
        rw [← HG3.out] at hk3 ⊢
        refine hK.out _ _ (World.rangeAt.keep (show W.rangeAt b (off + M * 32) (z.map (Value.int .u8)) from hS) dz hb3) (fun hS => ?_)
        rotate_left
        refine wp_alloc_D 64 rfl zeroD ?_
        intro w3 hk3 hs3 hb3
        rw [← HG3.out] at hk3 ⊢
        refine hK.out _ _ (World.rangeAt.keep (show W.rangeAt b (off + M * 32) (z.map (Value.int .u8)) from hS) dz hb3) (fun hS => ?_)
        refine wpAnyH_ready (rs := [12]) (by kernel_rfl) (by simp) ?_
        refine AllReadyH.cons rfl (fun K hK => ?_) AllReadyH.nil
        rw [if_pos (by rfl)]
        simp only [List.getElem_toArray, List.getElem_cons_zero, List.getElem_cons_succ]
        go_simp
        refine (hs _).mono ?_; rintro e w' ⟨rfl, hw'⟩; have hw2 := hw'.symm; subst hw2; clear hw'
        dsimp only
        refine hK.out _ _ hS (fun hS => ?_)
        rotate_left
        all_goals (
          have hk1e := hk1d.keep hb3
          have hk2e := hk2d.keep hb3
          have hBe := hBd.trans (hb3.mono hBd.size)
          have sqe := sqd.below hb3
          refine wpAnyH_ready (rs := [14]) (by kernel_rfl) (by simp) ?_
          refine AllReadyH.cons rfl (fun K hK => ?_) AllReadyH.nil
          rw [if_pos (by rfl)]
          simp only [List.getElem_toArray, List.getElem_cons_zero, List.getElem_cons_succ]
          refine wp_store_V 64 _ _ rfl g3 64 noDig z rfl rfl hk3 dig_no dz sizeD ?_
          intro w4 hk4 hg4 hs4
          refine hK.out _ _ (World.rangeAt.grown (show w3.rangeAt b (off + M * 32) (z.map (Value.int .u8)) from hS) dz hg4 (fun e => W3.out.2.2.2 (Option.some.inj e))) (fun hS => ?_)
          have hk1f := hk1e.grown hg4 (fun e => W3.out.2.1 (Option.some.inj e))
          have hk2f := hk2e.grown hg4 (fun e => W3.out.2.2.1 (Option.some.inj e))
          have hBf := hBe.grown hg4 hBe.size (by intro g hg; cases hg; exact W3.out.1)
          have sqf : SlD w4 (some ⟨b, off, none⟩) cap q := sqe.grown hg4 (fun b' off' e e2 => by cases e; exact W3.out.2.2.2 (Option.some.inj e2))
          refine wpAnyH_ready (rs := [15]) (by kernel_rfl) (by simp) ?_
          refine AllReadyH.cons rfl (fun K hK => ?_) AllReadyH.nil
          rw [if_pos (by rfl)]
          simp only [List.getElem_toArray, List.getElem_cons_zero, List.getElem_cons_succ]
          go_simp
          refine hK.out _ _ hS (fun hS => ?_)
          refine wpAnyH_ready (rs := [16]) (by kernel_rfl) (by simp) ?_
          refine AllReadyH.cons rfl (fun K hK => ?_) AllReadyH.nil
          rw [if_pos (by rfl)]
          simp only [List.getElem_toArray, List.getElem_cons_zero, List.getElem_cons_succ]
          go_simp
          refine hK.out _ _ hS (fun hS => ?_)
          refine wpAnyH_done (by kernel_rfl) ?_ _
          have k0 : 0 < k := by rw [HK.out]; exact Nat.pow_pos (by omega)
          by_cases hik : i < k
          · have cl := IH k (by omega) j i d (some ⟨b, off, none⟩) cap q w4 (by omega) (Nat.le_of_eq HK.out) (by omega) (by omega) dd sqf (ht.below hBf)
            rw [← HM.out] at cl
            have hd : decide ((i : Int) < (k : Int)) = true := decide_eq_true (by omega)
            have hi2 : (i : Int) < (k : Int) := by omega
            go_wp2_with (refine wpList_load_V rfl 64 _ rfl g1 64 d rfl hk1f dd _ Tryd.underlying64 rfl sizeD ?_)
            refine cl.mono ?_; rintro e w5 ⟨x, ok, rfl, dx, er, hb5⟩
            have ER := Lib.hid er
            have hk2g := hk2f.keep hb5
            have hk4g := hk4.keep hb5
            have hB5 := hBf.trans (hb5.mono hBf.size)
            clear cl er hk1f hk2f sqf hBf hk4
            go_wp2_with (with_reducible refine wpList_alloc_rw rfl 64 rfl (noDig.map (Value.int .u8)) _ zeroD ?_)
            intro w6 hk6 hs_ hb6
            have HS_w6 := Lib.hid hs_
            clear hs_
            obtain ⟨g6, hg6⟩ : ∃ g, g = w5.heap.size := ⟨_, rfl⟩
            rw [← hg6] at hk6 ⊢
            have n26 : g2 ≠ g6 := by rw [hg6]; exact Nat.ne_of_lt hk2g.lt
            have n36 : g3 ≠ g6 := by rw [hg6]; exact Nat.ne_of_lt hk4g.lt
            have w66 : w.heap.size ≤ g6 := by rw [hg6]; exact hB5.size
            clear hg6
            have hk2h := hk2g.keep hb6
            have hk4h := hk4g.keep hb6
            have hB6 := hB5.trans (hb6.mono hB5.size)
            go_wp2_with (refine wpList_store_V rfl 64 _ _ rfl g6 64 noDig x rfl rfl hk6 dig_no dx sizeD ?_)
            intro w7 hk7 hg7 hs7
            have hk2i := hk2h.grown hg7 (fun e => n26 (Option.some.inj e))
            have hk4i := hk4h.grown hg7 (fun e => n36 (Option.some.inj e))
            have hB7 := hB6.grown hg7 hB6.size (by intro g hg; cases hg; exact w66)
            have pc := pair_c x z w7 dx dz (ht.below hB7)
            clear hk2g hk4g hb6 hk2h hk4h hB5 hB6 hk6 hg7 hb5
            go_wp2_with (first | (refine wpList_load_V rfl 64 _ rfl g6 64 x rfl hk7 dx _ Tryd.underlying64 rfl sizeD ?_) | (refine wpList_load_V rfl 64 _ rfl g3 64 z rfl hk4i dz _ Tryd.underlying64 rfl sizeD ?_))
            refine pc.mono ?_; rintro e w8 ⟨rfl, hb8⟩
            have hk2j := hk2i.keep hb8
            have hB8 := hB7.trans (hb8.mono hB7.size)
            clear pc hk2i hk7 hk4i
            go_wp2_with (refine wpList_store_V rfl 64 _ _ rfl g2 64 noDig (pairD x z) rfl rfl hk2j dig_no (shaD_dig _) sizeD ?_)
            intro w9 hk9 hg9 hs9
            go_wp2_with fail
            refine bodyPost_ret (v := .tuple #[dval (pairD x z), .bool ok]) (results_dig_tmp (p := 8) (u := 9) rfl rfl hk9 (shaD_dig _) Tryd.underlying64 rfl sizeD) rfl ⟨pairD x z, ok, rfl, shaD_dig _, ?_, hB8.grown hg9 hB8.size (by intro g hg; cases hg; exact l2)⟩
            rw [foldH_any hh (h' := j + 1) hnk, foldH_left (by rw [← HK.out]; omega) (by rw [← HK.out]; omega), ← HK.out, ER.out]
            cases ok <;> rfl
          · have cl := IH (n - k) (by omega) j (i - k) d (some ⟨b, off, none⟩) cap q w4 (by omega) (by have := HK.out; have := pow2_succ j; omega) (by omega) (by omega) dd sqf (ht.below hBf)
            rw [← HM.out] at cl
            rw [show ((n - k : Nat) : Int) = (n : Int) - (k : Int) by omega, show ((i - k : Nat) : Int) = (i : Int) - (k : Int) by omega] at cl
            have hd : decide ((i : Int) < (k : Int)) = false := decide_eq_false (by omega)
            have hi2 : ¬ (i : Int) < (k : Int) := by omega
            have kk : (k : Int) < (n : Int) := by omega
            have nn : (n : Int) ≤ 9223372036854775807 := by omega
            have ii : (i : Int) < (n : Int) := by omega
            go_wp2_with (refine wpList_load_V rfl 64 _ rfl g1 64 d rfl hk1f dd _ Tryd.underlying64 rfl sizeD ?_)
            refine cl.mono ?_; rintro e w5 ⟨x, ok, rfl, dx, er, hb5⟩
            have ER := Lib.hid er
            have hk2g := hk2f.keep hb5
            have hk4g := hk4.keep hb5
            have hB5 := hBf.trans (hb5.mono hBf.size)
            clear cl er hk1f hk2f sqf hBf hk4
            go_wp2_with (with_reducible refine wpList_alloc_rw rfl 64 rfl (noDig.map (Value.int .u8)) _ zeroD ?_)
            intro w6 hk6 hs_ hb6
            have HS_w6 := Lib.hid hs_
            clear hs_
            obtain ⟨g6, hg6⟩ : ∃ g, g = w5.heap.size := ⟨_, rfl⟩
            rw [← hg6] at hk6 ⊢
            have n26 : g2 ≠ g6 := by rw [hg6]; exact Nat.ne_of_lt hk2g.lt
            have n36 : g3 ≠ g6 := by rw [hg6]; exact Nat.ne_of_lt hk4g.lt
            have w66 : w.heap.size ≤ g6 := by rw [hg6]; exact hB5.size
            clear hg6
            have hk2h := hk2g.keep hb6
            have hk4h := hk4g.keep hb6
            have hB6 := hB5.trans (hb6.mono hB5.size)
            go_wp2_with (refine wpList_store_V rfl 64 _ _ rfl g6 64 noDig x rfl rfl hk6 dig_no dx sizeD ?_)
            intro w7 hk7 hg7 hs7
            have hk2i := hk2h.grown hg7 (fun e => n26 (Option.some.inj e))
            have hk4i := hk4h.grown hg7 (fun e => n36 (Option.some.inj e))
            have hB7 := hB6.grown hg7 hB6.size (by intro g hg; cases hg; exact w66)
            have pc := pair_c z x w7 dz dx (ht.below hB7)
            clear hk2g hk4g hb6 hk2h hk4h hB5 hB6 hk6 hg7 hb5
            go_wp2_with (first | (refine wpList_load_V rfl 64 _ rfl g6 64 x rfl hk7 dx _ Tryd.underlying64 rfl sizeD ?_) | (refine wpList_load_V rfl 64 _ rfl g3 64 z rfl hk4i dz _ Tryd.underlying64 rfl sizeD ?_))
            refine pc.mono ?_; rintro e w8 ⟨rfl, hb8⟩
            have hk2j := hk2i.keep hb8
            have hB8 := hB7.trans (hb8.mono hB7.size)
            clear pc hk2i hk7 hk4i
            go_wp2_with (refine wpList_store_V rfl 64 _ _ rfl g2 64 noDig (pairD z x) rfl rfl hk2j dig_no (shaD_dig _) sizeD ?_)
            intro w9 hk9 hg9 hs9
            go_wp2_with fail
            refine bodyPost_ret (v := .tuple #[dval (pairD z x), .bool ok]) (results_dig_tmp (p := 8) (u := 9) rfl rfl hk9 (shaD_dig _) Tryd.underlying64 rfl sizeD) rfl ⟨pairD z x, ok, rfl, shaD_dig _, ?_, hB8.grown hg9 hB8.size (by intro g hg; cases hg; exact l2)⟩
            rw [foldH_any hh (h' := j + 1) hnk, foldH_right (by rw [← HK.out]; omega) (by rw [← HK.out]; omega), ← HK.out, ER.out]
            cases ok <;> rfl)

end Go.Proofs.YtmbifokiebjmmaaDoor
/- package log: in, Check by their contracts. -/
set_option linter.unusedVariables false
set_option linter.unusedSimpArgs false
namespace Go.Proofs.YtmbifokiebjmmaaDoor
open Go.RowKit Go.Sg
theorem zcD : (dval noDig).cells.size = 32 := by simp [dval, noDig, Value.cells]
/-- What 'in' tells: the lists as hashes; no: one of them is none. -/
def InPost (ps : List Part) (w : World) (e : Ending) (w' : World) : Prop :=
  ∃ v, e = .returned (.tuple #[v, .bool (decide (∀ p ∈ ps, p.xs.length = 32))]) ∧ ((∀ p ∈ ps, p.xs.length = 32) → NewD w.heap.size 64 w' v (ps.map (·.xs))) ∧ Below w.heap.size w w'

set_option maxHeartbeats 16000000 in
set_option maxRecDepth 20000 in
theorem in_c (A : Option Addr) (cap : Nat) (ps : List Part) (w : World) (hr : Rows_ w A ps) (hn : ps.length ≤ 4294967296) :
    Calls Tryd.prog 47 #[.slice A ps.length cap] w (InPost ps w) := by
  obtain ⟨n, hn'⟩ : ∃ n, n = ps.length := ⟨_, rfl⟩
  have HN := Lib.hid hn'
  rw [← hn'] at hn ⊢
  clear hn'
  go_enter Tryd.func47, Tryd.ntmps47
  go_wp2_with fail
  go_loopw [4, 9] (fun v t wr => ∃ k : Nat, k ≤ n ∧ t = .int .i64 (k : Int) ∧ (∀ p ∈ ps.take k, p.xs.length = 32) ∧ NewD w.heap.size 64 wr v ((ps.take k).map (·.xs)) ∧ Below w.heap.size w wr) (fun _ t _ => n - (intOf t).toNat)
  case atStart => exact ⟨0, by omega, rfl, by simp, .nil _ _ _, .refl _ _⟩
  case round =>
    obtain ⟨k, hk, rfl, hall, hv, hb⟩ := hrel
    obtain ⟨av, cv, rfl, _⟩ := hv.sl
    have lk : ((ps.take k).map (·.xs)).length = k := by rw [List.length_map, List.length_take, ← HN.out]; omega
    rw [lk] at hv ⊢
    have LK := Lib.hid lk
    have HA := Lib.hid hall
    clear lk hall
    by_cases hlt : k < n
    · have hd : decide ((k : Int) < (n : Int)) = true := decide_eq_true (by omega)
      have hki : (k : Int) < (n : Int) := by omega
      obtain ⟨b, off, rfl, hc⟩ := (hr.below hb).at_ (by have := HN.out; omega)
      have ck := hc k (by have := HN.out; omega)
      obtain ⟨p, hp⟩ : ∃ p, p = ps[k]'(by have := HN.out; omega) := ⟨_, rfl⟩
      have HP := Lib.hid hp
      have hmem : p ∈ ps := by rw [hp]; exact List.getElem_mem _
      have sp := (hr.below hb).sl p hmem
      have up := hr.u8 p hmem
      rw [← hp] at ck
      unfold Part.val at ck
      obtain ⟨z, hz⟩ : ∃ z, z = p.xs.length := ⟨_, rfl⟩
      rw [← hz] at ck
      have HZ := Lib.hid hz
      clear hp hz hc
      by_cases h32 : z = 32
      · subst h32
        have dp : Dig p.xs := ⟨HZ.out.symm, up⟩
        obtain ⟨bp, op, hap, hrg⟩ := sp.dig dp
        rw [hap] at ck
        have ar := fun W => arrD W (some ⟨bp, op, none⟩) 32 p.cap (by omega)
        clear hap sp
        go_wp2_with (first | (refine wpList_load_D rfl 64 _ rfl bp (op) rfl p.xs dp _ hrg Tryd.underlying64 rfl sizeD ?_) | (refine wpList_one_D rfl 66 64 _ rfl Tryd.underlying66 infoD p.xs dp rfl ?_))
        intro w1 hk1 hs1 hb1
        have HS1 := Lib.hid hs1
        have lv := fun g hg => (hv.lt g hg).1
        have hv1 := hv.keep hb1
        have hB1 := hb.trans (hb1.mono hb.size)
        obtain ⟨g1, hg1⟩ : ∃ g, g = wr.heap.size := ⟨_, rfl⟩
        rw [← hg1] at hk1 ⊢
        clear hs1 hg1 hv hb hb1
        go_wp2_with (at_builtin; refine wpList_append_newD _ rfl _ _ 66 rfl w.heap.size 64 (dval noDig) zcD Tryd.underlying66 infoD _ _ rfl hv1 g1 p.xs dp rfl hk1 (by rw [LK.out]; omega) hB1.size ?_)
        intro v' w2 hv2 hg2 ho2
        have hB2 := hB1.grown hg2 hB1.size lv
        have et : Hid (ps.take (k + 1) = ps.take k ++ [p]) := Lib.hid (by
          rw [List.take_add_one, List.getElem?_eq_getElem (by have := HN.out; omega), ← HP.out]
          rfl)
        clear hv1 hg2 ho2 hB1 hk1 ar
        go_wp2_with fail
        go_roundw
        case rel =>
          refine ⟨k + 1, by omega, by go_num, ?_, ?_, hB2⟩
          · rw [et.out]
            intro p' hp'
            rcases List.mem_append.1 hp' with h | h
            · exact HA.out p' h
            · simp at h; rw [h]; exact dp.1
          · rw [et.out, List.map_append, List.map_take]; exact hv2
        case measure => simp [intOf]; omega
      · have g : ((z : Int) != 32) = true := by simp; omega
        have e : Hid (decide (∀ p ∈ ps, p.xs.length = 32) = false) := Lib.hid (decide_eq_false fun h => h32 (by rw [HZ.out]; exact h p hmem))
        go_wp2_with fail
        go_ret2
        refine ⟨_, by rw [e.out]; rfl, fun h => absurd (h p hmem) (by rw [← HZ.out]; exact h32), hb⟩
    · obtain rfl : k = n := by omega
      have hd : decide ((k : Int) < (k : Int)) = false := by simp
      have et : ps.take k = ps := List.take_of_length_le (by rw [← HN.out]; omega)
      rw [et] at hv
      have hall := HA.out
      rw [et] at hall
      have e : Hid (decide (∀ p ∈ ps, p.xs.length = 32) = true) := Lib.hid (decide_eq_true hall)
      clear hall
      go_wp2_with fail
      go_ret2
      exact ⟨_, by rw [e.out]; rfl, fun _ => hv, hb⟩

end Go.Proofs.YtmbifokiebjmmaaDoor
namespace Go.Sg
open Go.RowKit
/-- Do they show it? -/
def checkP (root : List Int) (n i : Int) (leaf : List Int) (p : List (List Int)) : Prop :=
  (root.length = 32 ∧ leaf.length = 32) ∧ (∀ x ∈ p, x.length = 32) ∧ 0 ≤ i ∧ i < n ∧ foldH pairD 63 n.toNat i.toNat leaf p = some root
instance (root : List Int) (n i : Int) (leaf : List Int) (p : List (List Int)) : Decidable (checkP root n i leaf p) := by unfold checkP; infer_instance
end Go.Sg
namespace Go.Proofs.YtmbifokiebjmmaaDoor
open Go.RowKit Go.Sg
/-- A bool, and nothing that was there has turned. -/
def TellPost (b : Bool) (w : World) (e : Ending) (w' : World) : Prop := e = .returned (.bool b) ∧ Below w.heap.size w w'

set_option maxHeartbeats 16000000 in
set_option maxRecDepth 20000 in
theorem Check_c (a a' A : Option Addr) (cap cap' cap2 : Nat) (root leaf : List Int) (ps : List Part) (n i : Int) (w : World) (sr : Sl .u8 w a cap root) (ur : U8 root) (sl : Sl .u8 w a' cap' leaf) (ul : U8 leaf) (hr : Rows_ w A ps) (hn : ps.length ≤ 4294967296)
    (bn : n ≤ 9223372036854775807) (ht : ShaTabs w) :
    Calls Tryd.prog 20 #[.slice a root.length cap, .int .i64 n, .int .i64 i, .slice a' leaf.length cap', .slice A ps.length cap2] w (TellPost (decide (checkP root n i leaf (ps.map (·.xs)))) w) := by
  obtain ⟨r, hr'⟩ : ∃ r, r = root.length := ⟨_, rfl⟩
  obtain ⟨l, hl'⟩ : ∃ l, l = leaf.length := ⟨_, rfl⟩
  obtain ⟨m, hm'⟩ : ∃ m, m = ps.length := ⟨_, rfl⟩
  have HR := Lib.hid hr'
  have HL := Lib.hid hl'
  have HM := Lib.hid hm'
  have al := (Below.refl w.heap.size w).alloc (Nat.le_refl _) (.cells #[.slice a r cap, .slice a' l cap'] 25)
  have c1 := in_c (some ⟨w.heap.size, 0, none⟩) 2 [⟨a, cap, root⟩, ⟨a', cap', leaf⟩] (w.alloc (.cells #[.slice a r cap, .slice a' l cap'] 25)) (rows_new w 25 [⟨a, cap, root⟩, ⟨a', cap', leaf⟩] _ (by rw [hr', hl']; rfl) (by
    intro p hp
    simp only [List.mem_cons, List.not_mem_nil, or_false] at hp
    rcases hp with rfl | rfl
    · exact sr
    · exact sl) (by
    intro p hp
    simp only [List.mem_cons, List.not_mem_nil, or_false] at hp
    rcases hp with rfl | rfl
    · exact ur
    · exact ul)) (by simp)
  unfold InPost at c1
  have e1 : Hid ((∀ p ∈ [(⟨a, cap, root⟩ : Part), ⟨a', cap', leaf⟩], p.xs.length = 32) ↔ (root.length = 32 ∧ leaf.length = 32)) := Lib.hid (by simp)
  have c2 := fun W (k : Below w.heap.size w W) => in_c A cap2 ps W (hr.below k) hn
  unfold InPost at c2
  have e2 : Hid ((∀ p ∈ ps, p.xs.length = 32) ↔ (∀ x ∈ ps.map (·.xs), x.length = 32)) := Lib.hid (by simp)
  rw [← hr', ← hl', ← hm']
  rw [← hm'] at c2
  simp only [e1.out, List.map_cons, List.map_nil, List.length_cons, List.length_nil, Nat.zero_add, Nat.reduceAdd] at c1
  obtain ⟨B2, hB2'⟩ : ∃ b, b = decide (∀ p ∈ ps, p.xs.length = 32) := ⟨_, rfl⟩
  have HB2 := Lib.hid hB2'
  simp only [← hB2'] at c2
  clear hr' hl' hm' hr hn sr sl hB2'
  by_cases h1 : root.length = 32 ∧ leaf.length = 32
  · simp only [decide_eq_true h1] at c1
    cases B2 with
    | false =>
      have e : Hid (decide (checkP root n i leaf (ps.map (·.xs))) = false) := Lib.hid (decide_eq_false fun h => of_decide_eq_false HB2.out.symm (e2.out.2 h.2.1))
      go_enter Tryd.func20, Tryd.ntmps20
      go_wp2_with fail
      refine c1.mono ?_; rintro e_ w1 ⟨v, rfl, hv, hb⟩
      have hB := al.trans (hb.mono al.size)
      have c3 := c2 _ hB
      clear c1 c2
      go_wp2_with fail
      refine c3.mono ?_; rintro e_ w2 ⟨v2, rfl, hv2, hb2⟩
      have hB2 := hB.trans (hb2.mono hB.size)
      clear c3
      go_wp2_with fail
      go_ret
      exact ⟨by rw [e.out]; rfl, hB2⟩
    | true =>
      by_cases h3 : 0 ≤ i
      · by_cases h4 : i < n
        · have h2 := of_decide_eq_true HB2.out.symm
          obtain ⟨N, rfl⟩ : ∃ N : Nat, n = (N : Int) := ⟨n.toNat, by omega⟩
          obtain ⟨I, rfl⟩ : ∃ I : Nat, i = (I : Int) := ⟨i.toNat, by omega⟩
          have g3 : ¬ (I : Int) < 0 := by omega
          have g4 : ¬ (I : Int) ≥ (N : Int) := by omega
          have g5 : decide ((N : Int) ≤ (I : Int)) = false := decide_eq_false (by omega)
          have g7 : decide (N ≤ I) = false := decide_eq_false (by omega)
          have g8 : ¬ N ≤ I := by omega
          have g6 : decide ((I : Int) < 0) = false := decide_eq_false (by omega)
          go_enter Tryd.func20, Tryd.ntmps20
          go_wp2_with fail
          refine c1.mono ?_; rintro e_ w1 ⟨v, rfl, hv, hb⟩
          have hB := al.trans (hb.mono al.size)
          have c3 := c2 _ hB
          clear c1 c2
          go_wp2_with fail
          refine c3.mono ?_; rintro e_ w2 ⟨v2, rfl, hv2, hb2⟩
          have hB2 := hB.trans (hb2.mono hB.size)
          clear c3
          replace hv := (hv h1).keep hb2
          replace hv2 := hv2 h2
          obtain ⟨ae, ce, rfl, se⟩ := hv.sl
          obtain ⟨ap, cp, rfl, sp⟩ := hv2.sl
          have dr : Dig root := ⟨h1.1, ur⟩
          have dl : Dig leaf := ⟨h1.2, ul⟩
          obtain ⟨b, off, rfl, r1⟩ := se.range (i := 1) (by simp)
          obtain ⟨b', off', eb, r0⟩ := se.range (i := 0) (by simp)
          cases eb
          simp only [List.getElem_cons_succ, List.getElem_cons_zero, Nat.one_mul, Nat.zero_mul, Nat.add_zero] at r0 r1
          have cl := fold_c N N (Nat.le_refl _) 63 I leaf ap cp _ w2 (by omega) (by omega) (by omega) (by omega) dl sp (ht.below hB2)
          obtain ⟨Q, hQ⟩ : ∃ Q, Q = ps.map (·.xs) := ⟨_, rfl⟩
          rw [← hQ] at cl sp hv2 ⊢
          obtain ⟨z, hz⟩ : ∃ z, z = Q.length := ⟨_, rfl⟩
          rw [← hz] at cl ⊢
          have l2 : ([root, leaf] : List (List Int)).length = 2 := rfl
          rw [l2]
          have HQ := Lib.hid hQ
          clear hQ hz hv hv2 se sp l2 hb hb2 hB h2
          go_wp2_with (refine wpList_load_D rfl 64 _ rfl b (off + 32) rfl leaf dl _ r1 Tryd.underlying64 rfl sizeD ?_)
          refine cl.mono ?_; rintro e_ w3 ⟨x, ok, rfl, dx, er, hb3⟩
          have ER := Lib.hid er
          have r0' := World.rangeAt.keep r0 dr hb3
          have hB3 := hB2.trans (hb3.mono hB2.size)
          clear cl er r1 r0 hB2 hb3
          go_wp2_with (with_reducible refine wpList_alloc_rw rfl 64 rfl (noDig.map (Value.int .u8)) _ zeroD ?_)
          intro w4 hk4 hs_ hb4
          have HS_w4 := Lib.hid hs_
          clear hs_
          obtain ⟨g4', hg4'⟩ : ∃ g, g = w3.heap.size := ⟨_, rfl⟩
          have bl : b < w3.heap.size := World.block_lt_of_cell? _ _ (r0' 0 (.int .u8 (nth root 0)) (by rw [List.getElem?_map, List.getElem?_eq_getElem (by rw [dr.1]; omega), nth_get _ _ (by rw [dr.1]; omega)]; rfl))
          have ne4 : b ≠ g4' := by rw [hg4']; exact Nat.ne_of_lt bl
          have wg : w.heap.size ≤ g4' := by rw [hg4']; exact hB3.size
          have r04 := World.rangeAt.keep r0' dr hb4
          have hB4 := hB3.trans (hb4.mono hB3.size)
          rw [← hg4'] at hk4 ⊢
          clear hg4' bl r0' hB3 hb4
          go_wp2_with (refine wpList_store_V rfl 64 _ _ rfl g4' 64 noDig x rfl rfl hk4 dig_no dx sizeD ?_)
          intro w5 hk5 hg5 hs5
          have r05 := World.rangeAt.grown r04 dr hg5 (fun e => ne4 (Option.some.inj e))
          have hB5 := hB4.grown hg5 hB4.size (by intro g hg; cases hg; exact wg)
          clear r04 hB4 hk4 hg5 hs5
          go_wp2_with fail
          have fin : Hid (decide (checkP root N I leaf (ps.map (·.xs))) = (ok && decide (x = root))) := Lib.hid (by
            rw [show ps.map (·.xs) = Q from HQ.out.symm]
            have e : checkP root N I leaf Q ↔ foldH pairD 63 N I leaf Q = some root := by
              unfold checkP
              rw [Int.toNat_natCast, Int.toNat_natCast]
              refine ⟨fun h => h.2.2.2.2, fun h => ⟨h1, ?_, by omega, by omega, h⟩⟩
              rw [HQ.out]
              exact e2.out.1 (of_decide_eq_true HB2.out.symm)
            have e' : decide (checkP root N I leaf Q) = decide (foldH pairD 63 N I leaf Q = some root) := decide_eq_decide.2 e
            rw [e']
            simp only [ER.out]
            cases ok <;> simp)
          refine wp_region_still_lit (by kernel_rfl) (by kernel_rfl) ?_
          change wpStill _ _ (World.drew _) _ _ _
          cases ok with
          | false =>
            repeat still_step
            refine wpStill_nil ?_
            go_wp2_with fail
            go_ret
            exact ⟨by rw [fin.out]; rfl, below_drewN hB5 1⟩
          | true =>
            still_step
            still_step
            (refine wpStill_load_V (by rfl) 64 _ rfl g4' 64 x rfl hk5 dx _ Tryd.underlying64 rfl sizeD ?_)
            still_step
            still_step
            (refine wpStill_load_D (by rfl) 64 _ rfl b (off) rfl root dr _ r05 Tryd.underlying64 rfl sizeD ?_)
            (refine wpStill_eq_D (by rfl) 64 _ _ _ rfl x root rfl rfl (decide (x = root)) (eqD _ _ _ dx dr) grdD ?_)
            repeat still_step
            refine wpStill_nil ?_
            go_wp2_with fail
            go_ret
            exact ⟨by rw [fin.out]; rfl, below_drewN hB5 1⟩
        · have g4 : decide (n ≤ i) = true := decide_eq_true (by omega)
          have g3 : decide (i < 0) = false := decide_eq_false (by omega)
          have g5 : n ≤ i := by omega
          have e : Hid (decide (checkP root n i leaf (ps.map (·.xs))) = false) := Lib.hid (decide_eq_false fun h => h4 h.2.2.2.1)
          go_enter Tryd.func20, Tryd.ntmps20
          go_wp2_with fail
          refine c1.mono ?_; rintro e_ w1 ⟨v, rfl, hv, hb⟩
          have hB := al.trans (hb.mono al.size)
          have c3 := c2 _ hB
          clear c1 c2
          go_wp2_with fail
          refine c3.mono ?_; rintro e_ w2 ⟨v2, rfl, hv2, hb2⟩
          have hB2 := hB.trans (hb2.mono hB.size)
          clear c3
          go_wp2_with fail
          go_ret
          exact ⟨by rw [e.out]; rfl, hB2⟩
      · have g3 : decide (i < 0) = true := decide_eq_true (by omega)
        have g5 : i < 0 := by omega
        have e : Hid (decide (checkP root n i leaf (ps.map (·.xs))) = false) := Lib.hid (decide_eq_false fun h => h3 h.2.2.1)
        go_enter Tryd.func20, Tryd.ntmps20
        go_wp2_with fail
        refine c1.mono ?_; rintro e_ w1 ⟨v, rfl, hv, hb⟩
        have hB := al.trans (hb.mono al.size)
        have c3 := c2 _ hB
        clear c1 c2
        go_wp2_with fail
        refine c3.mono ?_; rintro e_ w2 ⟨v2, rfl, hv2, hb2⟩
        have hB2 := hB.trans (hb2.mono hB.size)
        clear c3
        go_wp2_with fail
        go_ret
        exact ⟨by rw [e.out]; rfl, hB2⟩
  · simp only [decide_eq_false h1] at c1
    have e : Hid (decide (checkP root n i leaf (ps.map (·.xs))) = false) := Lib.hid (decide_eq_false fun h => h1 h.1)
    go_enter Tryd.func20, Tryd.ntmps20
    go_wp2_with fail
    refine c1.mono ?_; rintro e_ w1 ⟨v, rfl, hv, hb⟩
    have hB := al.trans (hb.mono al.size)
    have c3 := c2 _ hB
    clear c1 c2
    go_wp2_with fail
    refine c3.mono ?_; rintro e_ w2 ⟨v2, rfl, hv2, hb2⟩
    have hB2 := hB.trans (hb2.mono hB.size)
    clear c3
    go_wp2_with fail
    go_ret
    exact ⟨by rw [e.out]; rfl, hB2⟩
end Go.Proofs.YtmbifokiebjmmaaDoor
/- package log: leaves, root, path, part, growth by their contracts. (Printed by gen_logo.py.) -/
set_option linter.unusedVariables false
set_option linter.unusedSimpArgs false
namespace Go.Proofs.YtmbifokiebjmmaaDoor
open Go.RowKit Go.Sg
theorem root_dig (h : Nat) (e : List Int) (ds : List (List Int)) (hd : ∀ d ∈ ds, Dig d) (he : Dig e := by exact shaD_dig _) : Dig (rootH pairD e h ds) := by
  induction h generalizing ds with
  | zero =>
    match ds, hd with
    | [], _ => exact he
    | d :: ds, hd => exact hd d (by simp)
  | succ h ih =>
    rw [rootH]
    split
    · exact ih ds hd
    · exact shaD_dig _
theorem NewD.one {B : Nat} {E : TypeId} {w' : World} {g : Nat} {d : List Int} (hk : Rw w' g E (d.map (Value.int .u8))) (hd : Dig d) (hB : B ≤ g) : NewD B E w' (.slice (some ⟨g, 0, none⟩) 1 1) [d] :=
  ⟨fun x hx => by simp at hx; rw [hx]; exact hd, .inr ⟨g, 1, _, rfl, hB, hk, by simp, by simp [hd.1], by omega, by simp [hd.1, List.take_of_length_le]⟩⟩
/-- Hashes of the call's own. -/
def DigsPost (ds : List (List Int)) (w : World) (e : Ending) (w' : World) : Prop := ∃ v, e = .returned v ∧ NewD w.heap.size 64 w' v ds ∧ Below w.heap.size w w'

set_option maxHeartbeats 16000000 in
set_option maxRecDepth 20000 in
theorem leaves_c (A : Option Addr) (cap : Nat) (ps : List Part) (w : World) (hr : Rows_ w A ps) (hn : ps.length ≤ 4294967296) (hl : ∀ p ∈ ps, p.xs.length ≤ 140737488355328) (ht : ShaTabs w) :
    Calls Tryd.prog 40 #[.slice A ps.length cap] w (DigsPost (ps.map fun p => leafD p.xs) w) := by
  obtain ⟨n, hn'⟩ : ∃ n, n = ps.length := ⟨_, rfl⟩
  have HN := Lib.hid hn'
  rw [← hn'] at hn ⊢
  clear hn'
  go_enter Tryd.func40, Tryd.ntmps40
  go_wp2_with (refine wpList_make_D _ rfl _ _ 66 rfl 64 Tryd.underlying66 infoD n (n : Int) (n : Int) rfl rfl rfl rfl (by omega) ?_)
  intro w1 hv1 hs1 hb1
  obtain ⟨g, hg⟩ : ∃ g, g = w.heap.size := ⟨_, rfl⟩
  rw [← hg] at hv1 ⊢
  have HG := Lib.hid hg
  clear hg hs1
  go_wp2_with fail
  go_loopw [11] (fun t wr => ∃ k : Nat, k ≤ n ∧ t = .int .i64 (k : Int) ∧ NewD w.heap.size 64 wr (.slice (some ⟨g, 0, none⟩) n n) ((ps.take k).map (fun p => leafD p.xs) ++ List.replicate (n - k) noDig) ∧ Below w.heap.size w wr) (fun t _ => n - (intOf t).toNat)
  case atStart => exact ⟨0, by omega, rfl, by have := hv1.mono (Nat.le_of_eq HG.out.symm); simpa using this, hb1⟩
  case round =>
    obtain ⟨k, hk, rfl, hv, hb⟩ := hrel
    clear hv1 hb1
    by_cases hlt : k < n
    · have hd : decide ((k : Int) < (n : Int)) = true := decide_eq_true (by omega)
      have hki : (k : Int) < (n : Int) := by omega
      obtain ⟨b, off, rfl, hc⟩ := (hr.below hb).at_ (by have := HN.out; omega)
      have ck := hc k (by have := HN.out; omega)
      obtain ⟨p, hp⟩ : ∃ p, p = ps[k]'(by have := HN.out; omega) := ⟨_, rfl⟩
      have HP := Lib.hid hp
      have hmem : p ∈ ps := by rw [hp]; exact List.getElem_mem _
      have lc := leafOf_c p.a p.cap p.xs wr ((hr.below hb).sl p hmem) (hr.u8 p hmem) (hl p hmem) (ht.below hb)
      rw [← hp] at ck
      unfold Part.val at ck
      obtain ⟨z, hz⟩ : ∃ z, z = p.xs.length := ⟨_, rfl⟩
      rw [← hz] at ck lc
      clear hp hz hc
      go_wp2_with fail
      refine lc.mono ?_; rintro e_ w2 ⟨rfl, hb2⟩
      have hv2 := hv.keep hb2
      have hB2 := hb.trans (hb2.mono hb.size)
      have lk : ((ps.take k).map (fun p => leafD p.xs)).length = k := by rw [List.length_map, List.length_take, ← HN.out]; omega
      have hin : k < ((ps.take k).map (fun p => leafD p.xs) ++ List.replicate (n - k) noDig).length := by rw [List.length_append, lk, List.length_replicate]; omega
      have es : Hid (((ps.take k).map (fun p => leafD p.xs) ++ List.replicate (n - k) noDig).set k (leafD p.xs) = (ps.take (k + 1)).map (fun p => leafD p.xs) ++ List.replicate (n - (k + 1)) noDig) := Lib.hid (by
        have e1 : ps.take (k + 1) = ps.take k ++ [p] := by rw [List.take_add_one, List.getElem?_eq_getElem (by have := HN.out; omega), ← HP.out]; rfl
        rw [List.set_append_right _ _ (by omega), lk, Nat.sub_self, show n - k = (n - (k + 1)) + 1 by omega, List.replicate_succ, List.set_cons_zero, e1, List.map_append, List.append_assoc]
        rfl)
      have LKH := Lib.hid lk
      clear lc hv hb hb2 lk
      obtain ⟨ds, hds⟩ : ∃ ds, ds = ((ps.take k).map (fun p => leafD p.xs) ++ List.replicate (n - k) noDig) := ⟨_, rfl⟩
      rw [← hds] at hv2 hin es
      clear hds
      go_wp2_with (refine wpList_store_D rfl 64 _ _ rfl sizeD w.heap.size 64 g n n ds hv2 k hin (leafD p.xs) (shaD_dig _) (by simp [go_sem]) rfl ?_)
      intro w3 hv3 hg3 hs3
      rw [es.out] at hv3
      have hB3 := hB2.grown hg3 hB2.size (by intro g' hg'; cases hg'; exact Nat.le_of_eq HG.out.symm)
      clear hv2 hin es hB2 hg3
      go_wp2_with fail
      go_roundw
      case rel => exact ⟨k + 1, by omega, by go_num, hv3, hB3⟩
      case measure => simp [intOf]; omega
    · obtain rfl : k = n := by omega
      have hd : decide ((k : Int) < (k : Int)) = false := decide_eq_false (by omega)
      rw [Nat.sub_self, List.replicate_zero, List.append_nil, List.take_of_length_le (by have := HN.out; omega)] at hv
      go_wp2_with fail
      go_ret
      exact ⟨_, rfl, hv, hb⟩

set_option maxHeartbeats 16000000 in
set_option maxRecDepth 20000 in
theorem root_c (N : Nat) : ∀ (ds : List (List Int)), ds.length ≤ N → ∀ (h : Nat) (a : Option Addr) (cap : Nat) (w : World), ds.length ≤ 2 ^ h → SlD w a cap ds → ShaTabs w →
    Calls Tryd.prog 39 #[.slice a ds.length cap] w (DigPost (rootH pairD (shaD []) h ds) w) := by
  induction N with
  | zero =>
    intro ds hN h a cap w hh sp ht
    obtain rfl : ds = [] := List.length_eq_zero_iff.1 (by omega)
    have e : rootH pairD (shaD []) h [] = shaD [] := rootH_any (h' := 0) (by simp) (by simp)
    rw [e]
    have ch := fun W (hb : Below w.heap.size w W) => hash_c none 0 [] W ⟨fun h => (by simp at h), fun p hp => (by cases hp), fun p hp => (by cases hp)⟩ (by simp) (by simp [flat]) (ht.below hb)
    rw [show flat [] = ([] : List Int) from rfl] at ch
    simp only [List.length_nil] at ch ⊢
    obtain ⟨x, hx⟩ : ∃ x, x = shaD [] := ⟨_, rfl⟩
    have dx : Dig x := by rw [hx]; exact shaD_dig _
    rw [← hx] at ch ⊢
    clear hx e
    go_enter Tryd.func39, Tryd.ntmps39
    have V0 := Vars.start 64 w
    go_wp2_with (with_reducible refine wpList_alloc_rw rfl 64 rfl (noDig.map (Value.int .u8)) _ zeroD ?_)
    intro w1 hk_ hs_ hb_
    have V1 := Vars.add V0 hk_ hb_ dig_no
    obtain ⟨g1, hg_⟩ : ∃ g, g = w.heap.size := ⟨_, rfl⟩
    rw [← hg_] at V1 ⊢
    simp only [List.nil_append, List.cons_append] at V1
    clear hk_ hs_ hb_ hg_
    have c := ch w1 V1.below
    clear ch V0
    go_wp2_with fail
    refine c.mono ?_; rintro e_ w2 ⟨rfl, hb2⟩
    have V2 := V1.keep hb2
    clear c V1 hb2
    go_wp2_with (refine wpList_store_V rfl 64 _ _ rfl g1 64 noDig x rfl rfl (Vars.at_ V2 (i := 0) rfl) (Vars.dig V2 (i := 0) rfl) dx sizeD ?_)
    intro w3 hk_ hg_ hs_
    have V3 := Vars.set V2 0 (g := g1) rfl hk_ hg_ dx
    simp only [List.set_cons_zero, List.set_cons_succ] at V3
    clear hk_ hg_ hs_ V2
    go_wp2_with fail
    exact bodyPost_ret (v := dval x) (results_dig rfl rfl (Vars.at_ V3 (i := 0) rfl) dx Tryd.underlying64 rfl sizeD) rfl ⟨rfl, V3.below⟩
  | succ N IH =>
    intro ds hN h a cap w hh sp ht
    by_cases h0 : ds.length ≤ N
    · exact IH ds h0 h a cap w hh sp ht
    by_cases h1 : ds.length = 1
    · match ds, h1 with
      | [z], _ =>
        have e : rootH pairD (shaD []) h [z] = z := rootH_any (h' := 0) hh (by simp)
        rw [e]
        have dz : Dig z := sp.dig z (by simp)
        obtain ⟨b, off, rfl, hr⟩ := sp.range (i := 0) (by simp)
        simp only [List.getElem_cons_zero, Nat.zero_mul, Nat.add_zero, List.length_cons, List.length_nil, Nat.zero_add] at hr ⊢
        clear e sp
        go_enter Tryd.func39, Tryd.ntmps39
        have V0 := Vars.start 64 w
        go_wp2_with (with_reducible refine wpList_alloc_rw rfl 64 rfl (noDig.map (Value.int .u8)) _ zeroD ?_)
        intro w1 hk_ hs_ hb_
        have V1 := Vars.add V0 hk_ hb_ dig_no
        obtain ⟨g1, hg_⟩ : ∃ g, g = w.heap.size := ⟨_, rfl⟩
        rw [← hg_] at V1 ⊢
        simp only [List.nil_append, List.cons_append] at V1
        clear hk_ hs_ hb_ hg_
        have hr1 := World.rangeAt.keep hr dz V1.below
        clear V0 hr
        go_wp2_with (first | (refine wpList_load_D rfl 64 _ rfl b (off) rfl z dz _ hr1 Tryd.underlying64 rfl sizeD ?_) | (refine wpList_store_V rfl 64 _ _ rfl g1 64 noDig z rfl rfl (Vars.at_ V1 (i := 0) rfl) (Vars.dig V1 (i := 0) rfl) dz sizeD ?_))
        intro w3 hk_ hg_ hs_
        have V3 := Vars.set V1 0 (g := g1) rfl hk_ hg_ dz
        simp only [List.set_cons_zero, List.set_cons_succ] at V3
        clear hk_ hg_ hs_ V1
        go_wp2_with fail
        exact bodyPost_ret (v := dval z) (results_dig rfl rfl (Vars.at_ V3 (i := 0) rfl) dz Tryd.underlying64 rfl sizeD) rfl ⟨rfl, V3.below⟩
    · obtain ⟨n, hn⟩ : ∃ n, n = ds.length := ⟨_, rfl⟩
      have HN := Lib.hid hn
      rw [← hn]
      by_cases hn0 : n = 0
      · obtain rfl : ds = [] := List.length_eq_zero_iff.1 (by omega)
        have := IH [] (by simp) h a cap w hh sp ht
        subst hn
        exact this
      have n2 : 2 ≤ n := by omega
      have nm : n ≤ 9223372036854775807 := by have := sp.le; have := sp.max; omega
      obtain ⟨k, j, hk, hkn, hnk, hs⟩ := split_any n n2 nm
      have k0 : 0 < k := by rw [hk]; exact Nat.pow_pos (by omega)
      have kc : k ≤ cap := by have := sp.le; omega
      have s1 := sp.take k
      have s2 := sp.drop k
      obtain ⟨a2, ha2⟩ : ∃ x, x = (if cap = k then a else a.map (·.add (k * 32))) := ⟨_, rfl⟩
      rw [← ha2] at s2
      have hc1 := fun W => run_toD (P := Tryd.prog) W 66 64 Tryd.underlying66 sizeD a n cap k kc (k : Int) rfl
      have hc2 := fun W => run_fromD (P := Tryd.prog) W 66 64 Tryd.underlying66 sizeD a n cap k (by omega) (k : Int) rfl
      rw [← ha2] at hc2
      have l1 : (ds.take k).length = k := by rw [List.length_take, ← hn]; omega
      have l2 : (ds.drop k).length = n - k := by rw [List.length_drop, ← hn]
      clear ha2
      have er : Hid (rootH pairD (shaD []) h ds = pairD (rootH pairD (shaD []) j (ds.take k)) (rootH pairD (shaD []) j (ds.drop k))) := Lib.hid (by
        rw [rootH_any hh (h' := j + 1) (by rw [← hn]; exact hnk), rootH_split (by rw [← hk, ← hn]; exact hkn), ← hk])
      obtain ⟨x, hx⟩ : ∃ x, x = rootH pairD (shaD []) j (ds.take k) := ⟨_, rfl⟩
      obtain ⟨y, hy⟩ : ∃ x, x = rootH pairD (shaD []) j (ds.drop k) := ⟨_, rfl⟩
      have c1 := fun W (hb : Below w.heap.size w W) => IH (ds.take k) (by rw [l1]; omega) j a cap W (by rw [l1, hk]; exact Nat.le_refl _) (s1.below hb) (ht.below hb)
      have c2 := fun W (hb : Below w.heap.size w W) => IH (ds.drop k) (by rw [l2]; omega) j a2 (cap - k) W (by rw [l2]; have := pow2_succ j; omega) (s2.below hb) (ht.below hb)
      rw [← hx, l1] at c1
      rw [← hy, l2] at c2
      rw [← hx, ← hy] at er
      have dx : Dig x := by rw [hx]; exact root_dig _ _ _ s1.dig
      have dy : Dig y := by rw [hy]; exact root_dig _ _ _ s2.dig
      rw [er.out]
      clear hx hy hk hn h0 h1 er s1 s2 sp l1 l2 IH hh hnk
      have nk : ((n : Int) == 0) = false := by simp; omega
      have nk1 : ((n : Int) == 1) = false := by simp; omega
      have lkn : (k : Int) < (n : Int) := by omega
      have len : (n : Int) ≤ 9223372036854775807 := by omega
      go_enter Tryd.func39, Tryd.ntmps39
      have V0 := Vars.start 64 w
      go_wp2_with (with_reducible refine wpList_alloc_rw rfl 64 rfl (noDig.map (Value.int .u8)) _ zeroD ?_)
      intro w1 hk_ hs_ hb_
      have V1 := Vars.add V0 hk_ hb_ dig_no
      obtain ⟨g1, hg_⟩ : ∃ g, g = w.heap.size := ⟨_, rfl⟩
      rw [← hg_] at V1 ⊢
      simp only [List.nil_append, List.cons_append] at V1
      clear hk_ hs_ hb_ hg_
      clear V0
      go_wp2_with fail
      refine (hs _).mono ?_; rintro e_ w2 ⟨rfl, hw'⟩; have hw2 := hw'.symm; subst hw2; clear hw'
      go_wp2_with fail
      refine wp_region_any (by kernel_rfl) ?_
      change wpAny _ _ _ _ _ _ _ (World.drew _)
      refine wpAny_take (i := 0) (v := ?_) rfl (by kernel_rfl) (by kernel_rfl) (by kernel_rfl) (fun _ _ _ h => h) (Or.inl ⟨by rfl, ?_⟩) ?_
      rotate_left
      · intro w; go_simp; try with_reducible rfl
      refine wpAny_take (i := 1) (v := ?_) rfl (by kernel_rfl) (by kernel_rfl) (by kernel_rfl) (fun _ _ _ h => h) (Or.inl ⟨by rfl, ?_⟩) ?_
      rotate_left
      · intro w; go_simp; try with_reducible rfl
      refine wpAny_take (i := 2) (v := ?_) rfl (by kernel_rfl) (by kernel_rfl) (by kernel_rfl) (fun _ _ _ h => h) (Or.inl ⟨by rfl, ?_⟩) ?_
      rotate_left
      · intro w; go_simp; try with_reducible rfl
      refine wpAny_take (i := 4) (v := ?_) rfl (by kernel_rfl) (by kernel_rfl) (by kernel_rfl) (fun _ _ _ h => h) (Or.inl ⟨by rfl, ?_⟩) ?_
      rotate_left
      · intro w; go_simp; try with_reducible rfl
      refine wpAny_take (i := 5) (v := ?_) rfl (by kernel_rfl) (by kernel_rfl) (by kernel_rfl) (fun _ _ _ h => h) (Or.inl ⟨by rfl, ?_⟩) ?_
      rotate_left
      · intro w; go_simp; try with_reducible rfl
      refine wpAny_take (i := 6) (v := ?_) rfl (by kernel_rfl) (by kernel_rfl) (by kernel_rfl) (fun _ _ _ h => h) (Or.inl ⟨by rfl, ?_⟩) ?_
      rotate_left
      · intro w; go_simp; try with_reducible rfl
      refine wpAny_seqI [3, 7, 8, 9] _ _ _ (by kernel_rfl) ?_
      simp only [pickL, List.drop_succ_cons, List.drop_zero, List.take_succ_cons, List.take_zero, List.cons_append, List.nil_append]
      have Vd := V1.drew 1
      change Vars _ w (World.drew w1) _ at Vd
      obtain ⟨W, hW⟩ : ∃ W, W = World.drew w1 := ⟨_, rfl⟩
      rw [← hW] at Vd ⊢
      clear hW V1
      have c3 := c1 W Vd.below
      go_wp2_with fail
      refine c3.mono ?_; rintro e_ w3 ⟨rfl, hb3⟩
      have V3 := Vd.keep hb3
      have c4 := c2 w3 V3.below
      clear c3 c1 Vd hb3
      go_wp2_with fail
      refine c4.mono ?_; rintro e_ w4 ⟨rfl, hb4⟩
      have V4 := V3.keep hb4
      have c5 := pair_c x y w4 dx dy (ht.below V4.below)
      clear c4 c2 V3 hb4
      go_wp2_with fail
      refine c5.mono ?_; rintro e_ w5 ⟨rfl, hb5⟩
      have V5 := V4.keep hb5
      clear c5 V4 hb5
      go_wp2_with (refine wpList_store_V rfl 64 _ _ rfl g1 64 noDig (pairD x y) rfl rfl (Vars.at_ V5 (i := 0) rfl) (Vars.dig V5 (i := 0) rfl) (shaD_dig _) sizeD ?_)
      intro w6 hk_ hg_ hs_
      have V6 := Vars.set V5 0 (g := g1) rfl hk_ hg_ (shaD_dig _)
      simp only [List.set_cons_zero, List.set_cons_succ] at V6
      clear hk_ hg_ hs_ V5
      go_wp2_with fail
      exact bodyPost_ret (v := dval (pairD x y)) (results_dig rfl rfl (Vars.at_ V6 (i := 0) rfl) (shaD_dig _) Tryd.underlying64 rfl sizeD) rfl ⟨rfl, V6.below⟩

set_option maxHeartbeats 16000000 in
set_option maxRecDepth 20000 in
theorem path_c (N : Nat) : ∀ (ds : List (List Int)), ds.length ≤ N → ∀ (h i : Nat) (a : Option Addr) (cap : Nat) (w : World), ds.length ≤ 2 ^ h → h ≤ 64 → i < ds.length → SlD w a cap ds → ShaTabs w →
    Calls Tryd.prog 57 #[.slice a ds.length cap, .int .i64 (i : Int)] w (DigsPost (pathH pairD (shaD []) h ds i) w) := by
  induction N with
  | zero => intro ds hN h i a cap w hh h6 hi; omega
  | succ N IH =>
    intro ds hN h i a cap w hh h6 hi sp ht
    obtain ⟨n, hn⟩ : ∃ n, n = ds.length := ⟨_, rfl⟩
    have HN := Lib.hid hn
    rw [← hn]
    rw [← hn] at hN hi
    by_cases n2 : 2 ≤ n
    · have nm : n ≤ 9223372036854775807 := by have := sp.le; have := sp.max; omega
      obtain ⟨k, j, hk, hkn, hnk, hs⟩ := split_any n n2 nm
      have k0 : 0 < k := by rw [hk]; exact Nat.pow_pos (by omega)
      have j6 : j ≤ 63 := by
        have h1 := (Nat.pow_lt_pow_iff_right (a := 2) (by omega)).1 (Nat.lt_of_lt_of_le (hk ▸ hkn) (hn ▸ hh))
        omega
      have kc : k ≤ cap := by have := sp.le; omega
      have s1 := sp.take k
      have s2 := sp.drop k
      obtain ⟨a2, ha2⟩ : ∃ x, x = (if cap = k then a else a.map (·.add (k * 32))) := ⟨_, rfl⟩
      rw [← ha2] at s2
      have hc1 := fun W => run_toD (P := Tryd.prog) W 66 64 Tryd.underlying66 sizeD a n cap k kc (k : Int) rfl
      have hc2 := fun W => run_fromD (P := Tryd.prog) W 66 64 Tryd.underlying66 sizeD a n cap k (by omega) (k : Int) rfl
      rw [← ha2] at hc2
      have l1 : (ds.take k).length = k := by rw [List.length_take, ← hn]; omega
      have l2 : (ds.drop k).length = n - k := by rw [List.length_drop, ← hn]
      clear ha2
      have lt2 : ((n : Int) < 2) = False := by simp; omega
      have ltd : decide ((n : Int) < 2) = false := decide_eq_false (by omega)
      have ltn : decide (n < 2) = false := decide_eq_false (by omega)
      have ltm : ¬ n < 2 := by omega
      have lkn : (k : Int) < (n : Int) := by omega
      have lin : (i : Int) < (n : Int) := by omega
      have len : (n : Int) ≤ 9223372036854775807 := by omega
      have R1 := fun W (hb : Below w.heap.size w W) => root_c (ds.take k).length (ds.take k) (Nat.le_refl _) j a cap W (by rw [l1, hk]; exact Nat.le_refl _) (s1.below hb) (ht.below hb)
      have R2 := fun W (hb : Below w.heap.size w W) => root_c (ds.drop k).length (ds.drop k) (Nat.le_refl _) j a2 (cap - k) W (by rw [l2]; have := pow2_succ j; omega) (s2.below hb) (ht.below hb)
      have dx : Dig (rootH pairD (shaD []) j (ds.take k)) := root_dig _ _ _ s1.dig
      have dy : Dig (rootH pairD (shaD []) j (ds.drop k)) := root_dig _ _ _ s2.dig
      rw [l1] at R1
      rw [l2] at R2
      by_cases hik : i < k
      · have er : Hid (pathH pairD (shaD []) h ds i = pathH pairD (shaD []) j (ds.take k) i ++ [rootH pairD (shaD []) j (ds.drop k)]) := Lib.hid (by
          rw [pathH_any hh (h' := j + 1) (by rw [← hn]; exact hnk), pathH_left (by rw [← hk, ← hn]; exact hkn) (by rw [← hk]; exact hik), ← hk])
        have c1 := fun W (hb : Below w.heap.size w W) => IH (ds.take k) (by rw [l1]; omega) j i a cap W (by rw [l1, hk]; exact Nat.le_refl _) (by omega) (by rw [l1]; exact hik) (s1.below hb) (ht.below hb)
        have lp := pathH_le (P := pairD) (e := shaD []) j (ds.take k) i
        obtain ⟨x, hx⟩ : ∃ x, x = pathH pairD (shaD []) j (ds.take k) i := ⟨_, rfl⟩
        obtain ⟨y, hy⟩ : ∃ x, x = rootH pairD (shaD []) j (ds.drop k) := ⟨_, rfl⟩
        rw [← hx, l1] at c1
        rw [← hy] at R2 dy
        rw [← hx] at lp
        rw [← hx, ← hy] at er
        rw [er.out]
        clear hx hy hk hn er s1 s2 sp l1 l2 IH hh hnk R1 dx
        have lik : decide ((i : Int) < (k : Int)) = true := decide_eq_true (by omega)
        have lik' : (i : Int) < (k : Int) := by omega
        go_enter Tryd.func57, Tryd.ntmps57
        go_wp2_with fail
        refine (hs _).mono ?_; rintro e_ w2 ⟨rfl, hw'⟩; have hw2 := hw'.symm; subst hw2; clear hw'
        go_wp2_with fail
        refine wp_region_any (by kernel_rfl) ?_
        change wpAny _ _ _ _ _ _ _ (World.drew _)
        refine wpAny_take (i := 0) (v := ?_) rfl (by kernel_rfl) (by kernel_rfl) (by kernel_rfl) (fun _ _ _ h => h) (Or.inl ⟨by rfl, ?_⟩) ?_
        rotate_left
        · intro w; go_simp; try with_reducible rfl
        refine wpAny_take (i := 1) (v := ?_) rfl (by kernel_rfl) (by kernel_rfl) (by kernel_rfl) (fun _ _ _ h => h) (Or.inl ⟨by rfl, ?_⟩) ?_
        rotate_left
        · intro w; go_simp; try with_reducible rfl
        refine wpAny_take (i := 2) (v := ?_) rfl (by kernel_rfl) (by kernel_rfl) (by kernel_rfl) (fun _ _ _ h => h) (Or.inl ⟨by rfl, ?_⟩) ?_
        rotate_left
        · intro w; go_simp; try with_reducible rfl
        refine wpAny_take (i := 3) (v := ?_) rfl (by kernel_rfl) (by kernel_rfl) (by kernel_rfl) (fun _ _ _ h => h) (Or.inl ⟨by rfl, ?_⟩) ?_
        rotate_left
        · intro w; go_simp; try with_reducible rfl
        refine wpAny_take (i := 5) (v := ?_) rfl (by kernel_rfl) (by kernel_rfl) (by kernel_rfl) (fun _ _ _ h => h) (Or.inl ⟨by rfl, ?_⟩) ?_
        rotate_left
        · intro w; go_simp; try with_reducible rfl
        refine wpAny_take (i := 6) (v := ?_) rfl (by kernel_rfl) (by kernel_rfl) (by kernel_rfl) (fun _ _ _ h => h) (Or.inl ⟨by rfl, ?_⟩) ?_
        rotate_left
        · intro w; go_simp; try with_reducible rfl
        refine wpAny_take (i := 7) (v := ?_) rfl (by kernel_rfl) (by kernel_rfl) (by kernel_rfl) (fun _ _ _ h => h) (Or.inl ⟨by rfl, ?_⟩) ?_
        rotate_left
        · intro w; go_simp; try with_reducible rfl
        refine wpAny_seqI [4, 8, 9, 10, 11] _ _ _ (by kernel_rfl) ?_
        simp only [pickL, List.drop_succ_cons, List.drop_zero, List.take_succ_cons, List.take_zero, List.cons_append, List.nil_append]
        obtain ⟨W, hW⟩ : ∃ W, W = World.drew w := ⟨_, rfl⟩
        have hBd : Below w.heap.size w W := by rw [hW]; exact below_drewN (.refl _ _) 1
        rw [← hW]
        clear hW
        have c3 := c1 W hBd
        unfold DigsPost at c3
        go_wp2_with fail
        refine c3.mono ?_; rintro e_ w3 ⟨v, rfl, hv3, hb3⟩
        replace hv3 := hv3.mono hBd.size
        have hB3 := hBd.trans (hb3.mono hBd.size)
        have c4 := R2 w3 hB3
        clear c3 c1 hBd hb3
        go_wp2_with fail
        refine c4.mono ?_; rintro e_ w4 ⟨rfl, hb4⟩
        have hv4 := hv3.keep hb4
        have hB4 := hB3.trans (hb4.mono hB3.size)
        clear c4 R2 hb4 hv3 hB3
        go_wp2_with (refine wpList_one_D rfl 66 64 _ rfl Tryd.underlying66 infoD y dy rfl ?_)
        intro w5 hk5 hs5 hb5
        have HS5 := Lib.hid hs5
        have lv := fun g hg => (hv4.lt g hg).1
        have hv5 := hv4.keep hb5
        have hB5 := hB4.trans (hb5.mono hB4.size)
        obtain ⟨g5, hg5⟩ : ∃ g, g = w4.heap.size := ⟨_, rfl⟩
        rw [← hg5] at hk5 ⊢
        clear hs5 hg5 hv4 hB4 hb5
        go_wp2_with (at_builtin; refine wpList_append_newD _ rfl _ _ 66 rfl w.heap.size 64 (dval noDig) zcD Tryd.underlying66 infoD _ _ rfl hv5 g5 y dy rfl hk5 (by omega) hB5.size ?_)
        intro v' w6 hv6 hg6 ho6
        have hB6 := hB5.grown hg6 hB5.size lv
        clear hv5 hg6 ho6 hB5 hk5
        go_wp2_with fail
        go_ret
        exact ⟨_, rfl, hv6, hB6⟩
      · have er : Hid (pathH pairD (shaD []) h ds i = pathH pairD (shaD []) j (ds.drop k) (i - k) ++ [rootH pairD (shaD []) j (ds.take k)]) := Lib.hid (by
          rw [pathH_any hh (h' := j + 1) (by rw [← hn]; exact hnk), pathH_right (by rw [← hk, ← hn]; exact hkn) (by rw [← hk]; exact hik), ← hk])
        have c1 := fun W (hb : Below w.heap.size w W) => IH (ds.drop k) (by rw [l2]; omega) j (i - k) a2 (cap - k) W (by rw [l2]; have := pow2_succ j; omega) (by omega) (by rw [l2]; omega) (s2.below hb) (ht.below hb)
        have lp := pathH_le (P := pairD) (e := shaD []) j (ds.drop k) (i - k)
        obtain ⟨x, hx⟩ : ∃ x, x = pathH pairD (shaD []) j (ds.drop k) (i - k) := ⟨_, rfl⟩
        obtain ⟨y, hy⟩ : ∃ x, x = rootH pairD (shaD []) j (ds.take k) := ⟨_, rfl⟩
        rw [← hx, l2, show ((i - k : Nat) : Int) = (i : Int) - (k : Int) by omega] at c1
        rw [← hy] at R1 dx
        have dy' := dy
        clear dy
        have dy := dx
        rw [← hx] at lp
        rw [← hx, ← hy] at er
        rw [er.out]
        have wik : IntKind.i64.wrap ((i : Int) - (k : Int)) = (i : Int) - (k : Int) := by rw [IntKind.wrap_i64]; omega
        clear hx hy hk hn er s1 s2 sp l1 l2 IH hh hnk R2 dy' dx
        have lik : decide ((i : Int) < (k : Int)) = false := decide_eq_false (by omega)
        have lik' : ¬ (i : Int) < (k : Int) := by omega
        go_enter Tryd.func57, Tryd.ntmps57
        go_wp2_with fail
        refine (hs _).mono ?_; rintro e_ w2 ⟨rfl, hw'⟩; have hw2 := hw'.symm; subst hw2; clear hw'
        go_wp2_with fail
        refine wp_region_any (by kernel_rfl) ?_
        change wpAny _ _ _ _ _ _ _ (World.drew _)
        refine wpAny_take (i := 0) (v := ?_) rfl (by kernel_rfl) (by kernel_rfl) (by kernel_rfl) (fun _ _ _ h => h) (Or.inl ⟨by rfl, ?_⟩) ?_
        rotate_left
        · intro w; go_simp; try with_reducible rfl
        refine wpAny_take (i := 1) (v := ?_) rfl (by kernel_rfl) (by kernel_rfl) (by kernel_rfl) (fun _ _ _ h => h) (Or.inl ⟨by rfl, ?_⟩) ?_
        rotate_left
        · intro w; go_simp; try with_reducible rfl
        refine wpAny_take (i := 2) (v := ?_) rfl (by kernel_rfl) (by kernel_rfl) (by kernel_rfl) (fun _ _ _ h => h) (Or.inl ⟨by rfl, ?_⟩) ?_
        rotate_left
        · intro w; go_simp; try with_reducible rfl
        refine wpAny_take (i := 3) (v := ?_) rfl (by kernel_rfl) (by kernel_rfl) (by kernel_rfl) (fun _ _ _ h => h) (Or.inl ⟨by rfl, ?_⟩) ?_
        rotate_left
        · intro w; go_simp; try with_reducible rfl
        refine wpAny_take (i := 4) (v := ?_) rfl (by kernel_rfl) (by kernel_rfl) (by kernel_rfl) (fun _ _ _ h => h) (Or.inl ⟨by rfl, ?_⟩) ?_
        rotate_left
        · intro w; go_simp; try with_reducible rfl
        refine wpAny_take (i := 5) (v := ?_) rfl (by kernel_rfl) (by kernel_rfl) (by kernel_rfl) (fun _ _ _ h => h) (Or.inl ⟨by rfl, ?_⟩) ?_
        rotate_left
        · intro w; go_simp; try with_reducible rfl
        refine wpAny_take (i := 7) (v := ?_) rfl (by kernel_rfl) (by kernel_rfl) (by kernel_rfl) (fun _ _ _ h => h) (Or.inl ⟨by rfl, ?_⟩) ?_
        rotate_left
        · intro w; go_simp; try with_reducible rfl
        refine wpAny_take (i := 8) (v := ?_) rfl (by kernel_rfl) (by kernel_rfl) (by kernel_rfl) (fun _ _ _ h => h) (Or.inl ⟨by rfl, ?_⟩) ?_
        rotate_left
        · intro w; go_simp; try with_reducible rfl
        refine wpAny_take (i := 9) (v := ?_) rfl (by kernel_rfl) (by kernel_rfl) (by kernel_rfl) (fun _ _ _ h => h) (Or.inl ⟨by rfl, ?_⟩) ?_
        rotate_left
        · intro w; go_simp; try with_reducible rfl
        refine wpAny_seqI [6, 10, 11, 12, 13] _ _ _ (by kernel_rfl) ?_
        simp only [pickL, List.drop_succ_cons, List.drop_zero, List.take_succ_cons, List.take_zero, List.cons_append, List.nil_append]
        obtain ⟨W, hW⟩ : ∃ W, W = World.drew w := ⟨_, rfl⟩
        have hBd : Below w.heap.size w W := by rw [hW]; exact below_drewN (.refl _ _) 1
        rw [← hW]
        clear hW
        have c3 := c1 W hBd
        unfold DigsPost at c3
        go_wp2_with fail
        refine c3.mono ?_; rintro e_ w3 ⟨v, rfl, hv3, hb3⟩
        replace hv3 := hv3.mono hBd.size
        have hB3 := hBd.trans (hb3.mono hBd.size)
        have c4 := R1 w3 hB3
        clear c3 c1 hBd hb3
        go_wp2_with fail
        refine c4.mono ?_; rintro e_ w4 ⟨rfl, hb4⟩
        have hv4 := hv3.keep hb4
        have hB4 := hB3.trans (hb4.mono hB3.size)
        clear c4 R1 hb4 hv3 hB3
        go_wp2_with (refine wpList_one_D rfl 66 64 _ rfl Tryd.underlying66 infoD y dy rfl ?_)
        intro w5 hk5 hs5 hb5
        have HS5 := Lib.hid hs5
        have lv := fun g hg => (hv4.lt g hg).1
        have hv5 := hv4.keep hb5
        have hB5 := hB4.trans (hb5.mono hB4.size)
        obtain ⟨g5, hg5⟩ : ∃ g, g = w4.heap.size := ⟨_, rfl⟩
        rw [← hg5] at hk5 ⊢
        clear hs5 hg5 hv4 hB4 hb5
        go_wp2_with (at_builtin; refine wpList_append_newD _ rfl _ _ 66 rfl w.heap.size 64 (dval noDig) zcD Tryd.underlying66 infoD _ _ rfl hv5 g5 y dy rfl hk5 (by omega) hB5.size ?_)
        intro v' w6 hv6 hg6 ho6
        have hB6 := hB5.grown hg6 hB5.size lv
        clear hv5 hg6 ho6 hB5 hk5
        go_wp2_with fail
        go_ret
        exact ⟨_, rfl, hv6, hB6⟩
    · have e : pathH pairD (shaD []) h ds i = [] := by rw [pathH_any hh (h' := 0) (by rw [← hn]; simp; omega)]; rfl
      obtain rfl : n = 1 := by omega
      rw [e]
      clear hn e
      go_enter Tryd.func57, Tryd.ntmps57
      go_wp2_with fail
      go_ret
      exact ⟨_, rfl, .nil _ _ _, .refl _ _⟩

set_option maxHeartbeats 16000000 in
set_option maxRecDepth 20000 in
theorem part_c (N : Nat) : ∀ (ds : List (List Int)), ds.length ≤ N → ∀ (h m : Nat) (wh : Bool) (a : Option Addr) (cap : Nat) (w : World), ds.length ≤ 2 ^ h → h ≤ 64 → 1 ≤ m → m ≤ ds.length → SlD w a cap ds → ShaTabs w →
    Calls Tryd.prog 64 #[.slice a ds.length cap, .int .i64 (m : Int), .bool wh] w (DigsPost (partH pairD (shaD []) h ds m wh) w) := by
  induction N with
  | zero => intro ds hN h m wh a cap w hh h6 hm; omega
  | succ N IH =>
    intro ds hN h m wh a cap w hh h6 hm hmn sp ht
    obtain ⟨n, hn⟩ : ∃ n, n = ds.length := ⟨_, rfl⟩
    have HN := Lib.hid hn
    rw [← hn]
    rw [← hn] at hN hmn
    by_cases hsame : m = n
    · subst hsame
      have ep : partH pairD (shaD []) h ds m wh = if wh = true then [] else [rootH pairD (shaD []) h ds] := by rw [hn, partH_same]
      rw [ep]
      cases wh with
      | true =>
        rw [if_pos rfl]
        clear ep hn
        go_enter Tryd.func64, Tryd.ntmps64
        go_wp2_with fail
        go_ret
        exact ⟨_, rfl, .nil _ _ _, .refl _ _⟩
      | false =>
        have c1 := root_c ds.length ds (Nat.le_refl _) h a cap w hh sp ht
        have dr : Dig (rootH pairD (shaD []) h ds) := root_dig _ _ _ sp.dig
        rw [if_neg (by simp)]
        obtain ⟨x, hx⟩ : ∃ x, x = rootH pairD (shaD []) h ds := ⟨_, rfl⟩
        rw [← hx, ← hn] at c1
        rw [← hx] at dr ⊢
        clear ep hn hx IH hh sp
        go_enter Tryd.func64, Tryd.ntmps64
        go_wp2_with fail
        refine c1.mono ?_; rintro e_ w2 ⟨rfl, hb2⟩
        clear c1
        go_wp2_with (refine wpList_one_D rfl 66 64 _ rfl Tryd.underlying66 infoD x dr rfl ?_)
        intro w3 hk3 hs3 hb3
        have HS3 := Lib.hid hs3
        have hB3 := hb2.trans (hb3.mono hb2.size)
        have nd : NewD w.heap.size 64 w3 (.slice (some ⟨w2.heap.size, 0, none⟩) 1 1) [x] := NewD.one hk3 dr hb2.size
        clear hs3 hk3 hb3
        go_wp2_with fail
        go_ret
        exact ⟨_, rfl, nd, hB3⟩
    · have hne : ((m : Int) == (n : Int)) = false := by simp; omega
      have nm : n ≤ 9223372036854775807 := by have := sp.le; have := sp.max; omega
      obtain ⟨k, j, hk, hkn, hnk, hs⟩ := split_any n (by omega) nm
      have k0 : 0 < k := by rw [hk]; exact Nat.pow_pos (by omega)
      have j6 : j ≤ 63 := by
        have h1 := (Nat.pow_lt_pow_iff_right (a := 2) (by omega)).1 (Nat.lt_of_lt_of_le (hk ▸ hkn) (hn ▸ hh))
        omega
      have kc : k ≤ cap := by have := sp.le; omega
      have s1 := sp.take k
      have s2 := sp.drop k
      obtain ⟨a2, ha2⟩ : ∃ x, x = (if cap = k then a else a.map (·.add (k * 32))) := ⟨_, rfl⟩
      rw [← ha2] at s2
      have hc1 := fun W => run_toD (P := Tryd.prog) W 66 64 Tryd.underlying66 sizeD a n cap k kc (k : Int) rfl
      have hc2 := fun W => run_fromD (P := Tryd.prog) W 66 64 Tryd.underlying66 sizeD a n cap k (by omega) (k : Int) rfl
      rw [← ha2] at hc2
      have l1 : (ds.take k).length = k := by rw [List.length_take, ← hn]; omega
      have l2 : (ds.drop k).length = n - k := by rw [List.length_drop, ← hn]
      clear ha2
      have lkn : (k : Int) < (n : Int) := by omega
      have lmn : (m : Int) < (n : Int) := by omega
      have len : (n : Int) ≤ 9223372036854775807 := by omega
      have R1 := fun W (hb : Below w.heap.size w W) => root_c (ds.take k).length (ds.take k) (Nat.le_refl _) j a cap W (by rw [l1, hk]; exact Nat.le_refl _) (s1.below hb) (ht.below hb)
      have R2 := fun W (hb : Below w.heap.size w W) => root_c (ds.drop k).length (ds.drop k) (Nat.le_refl _) j a2 (cap - k) W (by rw [l2]; have := pow2_succ j; omega) (s2.below hb) (ht.below hb)
      have dx : Dig (rootH pairD (shaD []) j (ds.take k)) := root_dig _ _ _ s1.dig
      have dy : Dig (rootH pairD (shaD []) j (ds.drop k)) := root_dig _ _ _ s2.dig
      rw [l1] at R1
      rw [l2] at R2
      by_cases hik : m ≤ k
      · have er : Hid (partH pairD (shaD []) h ds m wh = partH pairD (shaD []) j (ds.take k) m wh ++ [rootH pairD (shaD []) j (ds.drop k)]) := Lib.hid (by
          rw [partH_any hh (h' := j + 1) (by rw [← hn]; exact hnk), partH_left (by rw [← hk, ← hn]; omega) (by rw [← hk]; exact hik), ← hk])
        have c1 := fun W (hb : Below w.heap.size w W) => IH (ds.take k) (by rw [l1]; omega) j m wh a cap W (by rw [l1, hk]; exact Nat.le_refl _) (by omega) hm (by rw [l1]; exact hik) (s1.below hb) (ht.below hb)
        have lp := partH_le (P := pairD) (e := shaD []) j (ds.take k) m wh
        obtain ⟨x, hx⟩ : ∃ x, x = partH pairD (shaD []) j (ds.take k) m wh := ⟨_, rfl⟩
        obtain ⟨y, hy⟩ : ∃ x, x = rootH pairD (shaD []) j (ds.drop k) := ⟨_, rfl⟩
        rw [← hx, l1] at c1
        rw [← hy] at R2 dy
        rw [← hx] at lp
        rw [← hx, ← hy] at er
        rw [er.out]
        clear hx hy hk hn er s1 s2 sp l1 l2 IH hh hnk R1 dx
        have lik : decide ((m : Int) ≤ (k : Int)) = true := decide_eq_true (by omega)
        have lik' : (m : Int) ≤ (k : Int) := by omega
        go_enter Tryd.func64, Tryd.ntmps64
        go_wp2_with fail
        refine (hs _).mono ?_; rintro e_ w2 ⟨rfl, hw'⟩; have hw2 := hw'.symm; subst hw2; clear hw'
        go_wp2_with fail
        refine wp_region_any (by kernel_rfl) ?_
        change wpAny _ _ _ _ _ _ _ (World.drew _)
        refine wpAny_take (i := 0) (v := ?_) rfl (by kernel_rfl) (by kernel_rfl) (by kernel_rfl) (fun _ _ _ h => h) (Or.inl ⟨by rfl, ?_⟩) ?_
        rotate_left
        · intro w; go_simp; try with_reducible rfl
        refine wpAny_take (i := 1) (v := ?_) rfl (by kernel_rfl) (by kernel_rfl) (by kernel_rfl) (fun _ _ _ h => h) (Or.inl ⟨by rfl, ?_⟩) ?_
        rotate_left
        · intro w; go_simp; try with_reducible rfl
        refine wpAny_take (i := 2) (v := ?_) rfl (by kernel_rfl) (by kernel_rfl) (by kernel_rfl) (fun _ _ _ h => h) (Or.inl ⟨by rfl, ?_⟩) ?_
        rotate_left
        · intro w; go_simp; try with_reducible rfl
        refine wpAny_take (i := 3) (v := ?_) rfl (by kernel_rfl) (by kernel_rfl) (by kernel_rfl) (fun _ _ _ h => h) (Or.inl ⟨by rfl, ?_⟩) ?_
        rotate_left
        · intro w; go_simp; try with_reducible rfl
        refine wpAny_take (i := 4) (v := ?_) rfl (by kernel_rfl) (by kernel_rfl) (by kernel_rfl) (fun _ _ _ h => h) (Or.inl ⟨by rfl, ?_⟩) ?_
        rotate_left
        · intro w; go_simp; try with_reducible rfl
        refine wpAny_take (i := 6) (v := ?_) rfl (by kernel_rfl) (by kernel_rfl) (by kernel_rfl) (fun _ _ _ h => h) (Or.inl ⟨by rfl, ?_⟩) ?_
        rotate_left
        · intro w; go_simp; try with_reducible rfl
        refine wpAny_take (i := 7) (v := ?_) rfl (by kernel_rfl) (by kernel_rfl) (by kernel_rfl) (fun _ _ _ h => h) (Or.inl ⟨by rfl, ?_⟩) ?_
        rotate_left
        · intro w; go_simp; try with_reducible rfl
        refine wpAny_take (i := 8) (v := ?_) rfl (by kernel_rfl) (by kernel_rfl) (by kernel_rfl) (fun _ _ _ h => h) (Or.inl ⟨by rfl, ?_⟩) ?_
        rotate_left
        · intro w; go_simp; try with_reducible rfl
        refine wpAny_seqI [5, 9, 10, 11, 12] _ _ _ (by kernel_rfl) ?_
        simp only [pickL, List.drop_succ_cons, List.drop_zero, List.take_succ_cons, List.take_zero, List.cons_append, List.nil_append]
        obtain ⟨W, hW⟩ : ∃ W, W = World.drew w := ⟨_, rfl⟩
        have hBd : Below w.heap.size w W := by rw [hW]; exact below_drewN (.refl _ _) 1
        rw [← hW]
        clear hW
        have c3 := c1 W hBd
        unfold DigsPost at c3
        go_wp2_with fail
        refine c3.mono ?_; rintro e_ w3 ⟨v, rfl, hv3, hb3⟩
        replace hv3 := hv3.mono hBd.size
        have hB3 := hBd.trans (hb3.mono hBd.size)
        have c4 := R2 w3 hB3
        clear c3 c1 hBd hb3
        go_wp2_with fail
        refine c4.mono ?_; rintro e_ w4 ⟨rfl, hb4⟩
        have hv4 := hv3.keep hb4
        have hB4 := hB3.trans (hb4.mono hB3.size)
        clear c4 R2 hb4 hv3 hB3
        go_wp2_with (refine wpList_one_D rfl 66 64 _ rfl Tryd.underlying66 infoD y dy rfl ?_)
        intro w5 hk5 hs5 hb5
        have HS5 := Lib.hid hs5
        have lv := fun g hg => (hv4.lt g hg).1
        have hv5 := hv4.keep hb5
        have hB5 := hB4.trans (hb5.mono hB4.size)
        obtain ⟨g5, hg5⟩ : ∃ g, g = w4.heap.size := ⟨_, rfl⟩
        rw [← hg5] at hk5 ⊢
        clear hs5 hg5 hv4 hB4 hb5
        go_wp2_with (at_builtin; refine wpList_append_newD _ rfl _ _ 66 rfl w.heap.size 64 (dval noDig) zcD Tryd.underlying66 infoD _ _ rfl hv5 g5 y dy rfl hk5 (by omega) hB5.size ?_)
        intro v' w6 hv6 hg6 ho6
        have hB6 := hB5.grown hg6 hB5.size lv
        clear hv5 hg6 ho6 hB5 hk5
        go_wp2_with fail
        go_ret
        exact ⟨_, rfl, hv6, hB6⟩
      · have er : Hid (partH pairD (shaD []) h ds m wh = partH pairD (shaD []) j (ds.drop k) (m - k) false ++ [rootH pairD (shaD []) j (ds.take k)]) := Lib.hid (by
          rw [partH_any hh (h' := j + 1) (by rw [← hn]; exact hnk), partH_right (by rw [← hk, ← hn]; omega) (by rw [← hn]; exact hsame) (by rw [← hk]; exact hik), ← hk])
        have c1 := fun W (hb : Below w.heap.size w W) => IH (ds.drop k) (by rw [l2]; omega) j (m - k) false a2 (cap - k) W (by rw [l2]; have := pow2_succ j; omega) (by omega) (by omega) (by rw [l2]; omega) (s2.below hb) (ht.below hb)
        have lp := partH_le (P := pairD) (e := shaD []) j (ds.drop k) (m - k) false
        obtain ⟨x, hx⟩ : ∃ x, x = partH pairD (shaD []) j (ds.drop k) (m - k) false := ⟨_, rfl⟩
        obtain ⟨y, hy⟩ : ∃ x, x = rootH pairD (shaD []) j (ds.take k) := ⟨_, rfl⟩
        rw [← hx, l2, show ((m - k : Nat) : Int) = (m : Int) - (k : Int) by omega] at c1
        rw [← hy] at R1 dx
        have dy' := dy
        clear dy
        have dy := dx
        rw [← hx] at lp
        rw [← hx, ← hy] at er
        rw [er.out]
        have wik : IntKind.i64.wrap ((m : Int) - (k : Int)) = (m : Int) - (k : Int) := by rw [IntKind.wrap_i64]; omega
        clear hx hy hk hn er s1 s2 sp l1 l2 IH hh hnk R2 dy' dx
        have lik : decide ((m : Int) ≤ (k : Int)) = false := decide_eq_false (by omega)
        have lik' : ¬ (m : Int) ≤ (k : Int) := by omega
        go_enter Tryd.func64, Tryd.ntmps64
        go_wp2_with fail
        refine (hs _).mono ?_; rintro e_ w2 ⟨rfl, hw'⟩; have hw2 := hw'.symm; subst hw2; clear hw'
        go_wp2_with fail
        refine wp_region_any (by kernel_rfl) ?_
        change wpAny _ _ _ _ _ _ _ (World.drew _)
        refine wpAny_take (i := 0) (v := ?_) rfl (by kernel_rfl) (by kernel_rfl) (by kernel_rfl) (fun _ _ _ h => h) (Or.inl ⟨by rfl, ?_⟩) ?_
        rotate_left
        · intro w; go_simp; try with_reducible rfl
        refine wpAny_take (i := 1) (v := ?_) rfl (by kernel_rfl) (by kernel_rfl) (by kernel_rfl) (fun _ _ _ h => h) (Or.inl ⟨by rfl, ?_⟩) ?_
        rotate_left
        · intro w; go_simp; try with_reducible rfl
        refine wpAny_take (i := 2) (v := ?_) rfl (by kernel_rfl) (by kernel_rfl) (by kernel_rfl) (fun _ _ _ h => h) (Or.inl ⟨by rfl, ?_⟩) ?_
        rotate_left
        · intro w; go_simp; try with_reducible rfl
        refine wpAny_take (i := 3) (v := ?_) rfl (by kernel_rfl) (by kernel_rfl) (by kernel_rfl) (fun _ _ _ h => h) (Or.inl ⟨by rfl, ?_⟩) ?_
        rotate_left
        · intro w; go_simp; try with_reducible rfl
        refine wpAny_take (i := 4) (v := ?_) rfl (by kernel_rfl) (by kernel_rfl) (by kernel_rfl) (fun _ _ _ h => h) (Or.inl ⟨by rfl, ?_⟩) ?_
        rotate_left
        · intro w; go_simp; try with_reducible rfl
        refine wpAny_take (i := 5) (v := ?_) rfl (by kernel_rfl) (by kernel_rfl) (by kernel_rfl) (fun _ _ _ h => h) (Or.inl ⟨by rfl, ?_⟩) ?_
        rotate_left
        · intro w; go_simp; try with_reducible rfl
        refine wpAny_take (i := 7) (v := ?_) rfl (by kernel_rfl) (by kernel_rfl) (by kernel_rfl) (fun _ _ _ h => h) (Or.inl ⟨by rfl, ?_⟩) ?_
        rotate_left
        · intro w; go_simp; try with_reducible rfl
        refine wpAny_take (i := 8) (v := ?_) rfl (by kernel_rfl) (by kernel_rfl) (by kernel_rfl) (fun _ _ _ h => h) (Or.inl ⟨by rfl, ?_⟩) ?_
        rotate_left
        · intro w; go_simp; try with_reducible rfl
        refine wpAny_take (i := 9) (v := ?_) rfl (by kernel_rfl) (by kernel_rfl) (by kernel_rfl) (fun _ _ _ h => h) (Or.inl ⟨by rfl, ?_⟩) ?_
        rotate_left
        · intro w; go_simp; try with_reducible rfl
        refine wpAny_seqI [6, 10, 11, 12, 13] _ _ _ (by kernel_rfl) ?_
        simp only [pickL, List.drop_succ_cons, List.drop_zero, List.take_succ_cons, List.take_zero, List.cons_append, List.nil_append]
        obtain ⟨W, hW⟩ : ∃ W, W = World.drew w := ⟨_, rfl⟩
        have hBd : Below w.heap.size w W := by rw [hW]; exact below_drewN (.refl _ _) 1
        rw [← hW]
        clear hW
        have c3 := c1 W hBd
        unfold DigsPost at c3
        go_wp2_with fail
        refine c3.mono ?_; rintro e_ w3 ⟨v, rfl, hv3, hb3⟩
        replace hv3 := hv3.mono hBd.size
        have hB3 := hBd.trans (hb3.mono hBd.size)
        have c4 := R1 w3 hB3
        clear c3 c1 hBd hb3
        go_wp2_with fail
        refine c4.mono ?_; rintro e_ w4 ⟨rfl, hb4⟩
        have hv4 := hv3.keep hb4
        have hB4 := hB3.trans (hb4.mono hB3.size)
        clear c4 R1 hb4 hv3 hB3
        go_wp2_with (refine wpList_one_D rfl 66 64 _ rfl Tryd.underlying66 infoD y dy rfl ?_)
        intro w5 hk5 hs5 hb5
        have HS5 := Lib.hid hs5
        have lv := fun g hg => (hv4.lt g hg).1
        have hv5 := hv4.keep hb5
        have hB5 := hB4.trans (hb5.mono hB4.size)
        obtain ⟨g5, hg5⟩ : ∃ g, g = w4.heap.size := ⟨_, rfl⟩
        rw [← hg5] at hk5 ⊢
        clear hs5 hg5 hv4 hB4 hb5
        go_wp2_with (at_builtin; refine wpList_append_newD _ rfl _ _ 66 rfl w.heap.size 64 (dval noDig) zcD Tryd.underlying66 infoD _ _ rfl hv5 g5 y dy rfl hk5 (by omega) hB5.size ?_)
        intro v' w6 hv6 hg6 ho6
        have hB6 := hB5.grown hg6 hB5.size lv
        clear hv5 hg6 ho6 hB5 hk5
        go_wp2_with fail
        go_ret
        exact ⟨_, rfl, hv6, hB6⟩
end Go.Proofs.YtmbifokiebjmmaaDoor
