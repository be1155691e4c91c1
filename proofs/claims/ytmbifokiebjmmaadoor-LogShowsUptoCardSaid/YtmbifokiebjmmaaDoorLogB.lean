/- package log: in, fold by their contracts. -/
import Derived.Test.YtmbifokiebjmmaaDoorLogA
import Derived.Test.YtmbifokiebjmmaaDoorWideQ
set_option linter.unusedVariables false
set_option linter.unusedSimpArgs false
namespace Go.Proofs.YtmbifokiebjmmaaDoor
open Go.RowKit Go.Sg
def FoldPost (r : Option (List Int)) (w : World) (e : Ending) (w' : World) : Prop := ∃ x ok, e = .returned (.tuple #[dval x, .bool ok]) ∧ Dig x ∧ r = (if ok = true then some x else none) ∧ Below w.heap.size w w'
theorem grdD : Tryd.prog.eqGuardType Tryd.prog.depth 64 = false := by kernel_rfl
theorem bltD : Tryd.prog.built 64 [] = some (noDig.map (Value.int .u8)).toArray := by kernel_rfl

/-- split as a number that is known ahead of the call. -/
theorem split_any (n : Nat) (h2 : 2 ≤ n) (hm : n ≤ 9223372036854775807) : ∃ k j : Nat, k = 2 ^ j ∧ k < n ∧ n ≤ 2 ^ (j + 1) ∧ ∀ w, Calls Tryd.prog 59 #[.int .i64 (n : Int)] w (fun e w' => e = .returned (.int .i64 (k : Int)) ∧ w' = w) := by
  have uniq : ∀ a b : Nat, 2 ^ a < n → n ≤ 2 ^ (a + 1) → 2 ^ b < n → n ≤ 2 ^ (b + 1) → a = b := fun a b a1 a2 b1 b2 => by
    have h1 := (Nat.pow_lt_pow_iff_right (a := 2) (by omega)).1 (Nat.lt_of_lt_of_le a1 b2)
    have h2 := (Nat.pow_lt_pow_iff_right (a := 2) (by omega)).1 (Nat.lt_of_lt_of_le b1 a2)
    omega
  have l1 := Nat.log2_self_le (n := n - 1) (by omega)
  have l2 := Nat.lt_log2_self (n := n - 1)
  refine ⟨2 ^ Nat.log2 (n - 1), Nat.log2 (n - 1), rfl, by omega, by omega, fun w => ?_⟩
  refine (split_c n w h2 hm).mono ?_
  rintro e w' ⟨k, j, rfl, rfl, h3, h4, rfl⟩
  obtain rfl := uniq j (Nat.log2 (n - 1)) h3 h4 (by omega) (by omega)
  exact ⟨rfl, rfl⟩

set_option maxHeartbeats 16000000 in
set_option maxRecDepth 20000 in
theorem fold_c : ∀ (N n : Nat), n ≤ N → ∀ (h i : Nat) (d : List Int) (a : Option Addr) (cap : Nat) (p : List (List Int)) (w : World), 1 ≤ n → n ≤ 2 ^ h → i < n → n ≤ 9223372036854775807 → Dig d → SlD w a cap p → ShaTabs w →
    Calls Tryd.prog 48 #[.int .i64 (n : Int), .int .i64 (i : Int), dval d, .slice a p.length cap] w (FoldPost (foldH pairD h n i d p) w)
  | 0, n, hN, _, _, _, _, _, _, _, h1, _, _, _, _, _, _ => by omega
  | N + 1, n, hN, h, i, d, a, cap, p, w, h1, hh, hi, hm, dd, sp, ht => by
    have IH := fold_c N
    obtain ⟨L, hL⟩ : ∃ L, L = p.length := ⟨_, rfl⟩
    have HL := Lib.hid hL
    rw [← hL]
    clear hL
    go_enter Tryd.func48, Tryd.ntmps48
    go_wp2_with (refine wpList_box_D rfl 64 _ rfl d rfl ?_)
    intro w1 hk1 hs_ hb1
    have HS_w1 := Lib.hid hs_
    clear hs_
    obtain ⟨g1, hg1⟩ : ∃ g, g = w.heap.size := ⟨_, rfl⟩
    rw [← hg1] at hk1 ⊢
    have l1 : w.heap.size ≤ g1 := Nat.le_of_eq hg1.symm
    clear hg1
    go_wp2_with (with_reducible refine wpList_alloc_rw rfl 64 rfl (noDig.map (Value.int .u8)) _ zeroD ?_)
    intro w2 hk2 hs_ hb2
    have HS_w2 := Lib.hid hs_
    clear hs_
    obtain ⟨g2, hg2⟩ : ∃ g, g = w1.heap.size := ⟨_, rfl⟩
    rw [← hg2] at hk2 ⊢
    have l2 : w.heap.size ≤ g2 := by rw [hg2]; exact hb1.size
    have hB := hb1.trans (hb2.mono hb1.size)
    have n12 : g1 ≠ g2 := by rw [hg2]; exact Nat.ne_of_lt hk1.lt
    have hk1 := hk1.keep hb2
    clear hg2 hb1 hb2
    by_cases hone : n = 1
    · subst hone
      rw [show ((1 : Nat) : Int) = 1 from rfl]
      have e : Hid (foldH pairD h 1 i d p = if ((L : Int) == 0) = true then some d else none) := Lib.hid (by
        rw [foldH_any hh (show 1 ≤ 2 ^ 0 by omega), foldH, HL.out]
        by_cases h0 : p = []
        · subst h0; rfl
        · rw [if_neg h0]
          have : 0 < p.length := List.length_pos_iff.2 h0
          rw [if_neg (by simp; omega)])
      go_wp2_with (first | (refine wpList_load_V rfl 64 _ rfl g1 64 d rfl hk1 dd _ Tryd.underlying64 rfl sizeD ?_) | (refine wpList_store_V rfl 64 _ _ rfl g2 64 noDig d rfl rfl hk2 dig_no dd sizeD ?_))
      intro w3 hk3 hg3 hs3
      go_wp2_with fail
      refine bodyPost_ret (v := .tuple #[dval d, .bool ((L : Int) == 0)]) (results_dig_tmp (p := 8) (u := 9) rfl rfl hk3 dd Tryd.underlying64 rfl sizeD) rfl ⟨d, _, rfl, dd, e.out, ?_⟩
      exact hB.grown hg3 hB.size (by intro g hg; cases hg; exact l2)
    · have n1 : ((n : Int) == 1) = false := by simp; omega
      rcases snoc_cases p with rfl | ⟨q, z, rfl⟩
      · obtain rfl : L = 0 := HL.out
        have e : Hid (foldH pairD h n i d [] = none) := Lib.hid (foldH_nil (by omega) h hh)
        go_wp2_with (first | (refine wpList_build0 rfl 64 rfl bltD ?_) | (refine wpList_store_V rfl 64 _ _ rfl g2 64 noDig noDig rfl rfl hk2 dig_no dig_no sizeD ?_))
        intro w3 hk3 hg3 hs3
        go_wp2_with fail
        refine bodyPost_ret (v := .tuple #[dval noDig, .bool false]) (results_dig_tmp (p := 8) (u := 9) rfl rfl hk3 dig_no Tryd.underlying64 rfl sizeD) rfl ⟨noDig, false, rfl, dig_no, by rw [e.out]; rfl, ?_⟩
        exact hB.grown hg3 hB.size (by intro g hg; cases hg; exact l2)
      · obtain ⟨M, hM⟩ : ∃ M, M = q.length := ⟨_, rfl⟩
        have HM := Lib.hid hM
        obtain rfl : L = M + 1 := by rw [HL.out, hM]; simp
        have dz : Dig z := sp.dig z (by simp)
        obtain ⟨b, off, rfl, hr⟩ := sp.last
        rw [← hM] at hr
        have hr2 : w2.rangeAt b (off + M * 32) (z.map (Value.int .u8)) := World.rangeAt.keep hr dz hB
        have ml : M + 1 ≤ cap := by have := sp.le; simp at this; omega
        have sq := sp.take M
        rw [show (q ++ [z]).take M = q by rw [hM]; exact List.take_left] at sq
        have hcut := fun W => run_toD (P := Tryd.prog) W 66 64 Tryd.underlying66 sizeD (some ⟨b, off, none⟩) (M + 1) cap M (by omega)
        obtain ⟨k, j, hk, hkn, hnk, hs⟩ := split_any n (by omega) hm
        have M0 : ¬ ((M : Int) + 1 = 0) := by omega
        have M1 : (((M : Int) + 1) == 0) = false := by simp; omega
        have lm : (M : Int) < (M : Int) + 1 := by omega
        have wM : IntKind.i64.wrap (M : Int) = (M : Int) := by rw [IntKind.wrap_i64]; have := sp.max; omega
        clear hM
        go_wp2_with fail
        refine wp_region_held_drew (S := fun W => W.rangeAt b (off + M * 32) (z.map (Value.int .u8))) (by kernel_rfl) (hr2) (fun hS => ?_)
        refine wpAnyH_take (i := 0) (v := ?_) rfl (by kernel_rfl) (by kernel_rfl) (by kernel_rfl) (fun _ _ _ h => h) (Or.inl ⟨by rfl, ?_⟩) hS ?_
        rotate_left
        · intro w _; go_simp; try with_reducible rfl
        simp only [List.getElem_toArray, List.getElem_cons_zero, List.getElem_cons_succ, Act.put, List.setIfInBounds_toArray, List.set_cons_zero, List.set_cons_succ]
        refine wpAnyH_take (i := 1) (v := ?_) rfl (by kernel_rfl) (by kernel_rfl) (by kernel_rfl) (fun _ _ _ h => h) (Or.inl ⟨by rfl, ?_⟩) hS ?_
        rotate_left
        · intro w _; go_simp; try with_reducible rfl
        simp only [List.getElem_toArray, List.getElem_cons_zero, List.getElem_cons_succ, Act.put, List.setIfInBounds_toArray, List.set_cons_zero, List.set_cons_succ]
        refine wpAnyH_take (i := 2) (v := ?_) rfl (by kernel_rfl) (by kernel_rfl) (by kernel_rfl) (fun _ _ _ h => h) (Or.inl ⟨by rfl, ?_⟩) hS ?_
        rotate_left
        · intro w _; go_simp; try with_reducible rfl
        simp only [List.getElem_toArray, List.getElem_cons_zero, List.getElem_cons_succ, Act.put, List.setIfInBounds_toArray, List.set_cons_zero, List.set_cons_succ]
        refine wpAnyH_take (i := 3) (v := ?_) rfl (by kernel_rfl) (by kernel_rfl) (by kernel_rfl) (fun _ _ _ h => h) (Or.inl ⟨by rfl, ?_⟩) hS ?_
        rotate_left
        · intro w _; go_simp; try with_reducible rfl
        simp only [List.getElem_toArray, List.getElem_cons_zero, List.getElem_cons_succ, Act.put, List.setIfInBounds_toArray, List.set_cons_zero, List.set_cons_succ]
        refine wpAnyH_take (i := 4) (v := ?_) rfl (by kernel_rfl) (by kernel_rfl) (by kernel_rfl) (fun _ _ _ h => h) (Or.inl ⟨by rfl, ?_⟩) hS ?_
        rotate_left
        · intro w _; go_simp; try with_reducible rfl
        simp only [List.getElem_toArray, List.getElem_cons_zero, List.getElem_cons_succ, Act.put, List.setIfInBounds_toArray, List.set_cons_zero, List.set_cons_succ]
        refine wpAnyH_take (i := 6) (v := ?_) rfl (by kernel_rfl) (by kernel_rfl) (by kernel_rfl) (fun _ _ _ h => h) (Or.inl ⟨by rfl, ?_⟩) hS ?_
        rotate_left
        · intro w _; go_simp; try with_reducible rfl
        simp only [List.getElem_toArray, List.getElem_cons_zero, List.getElem_cons_succ, Act.put, List.setIfInBounds_toArray, List.set_cons_zero, List.set_cons_succ]
        refine wpAnyH_take (i := 7) (v := ?_) rfl (by kernel_rfl) (by kernel_rfl) (by kernel_rfl) (fun _ _ _ h => h) (Or.inl ⟨by rfl, ?_⟩) hS ?_
        rotate_left
        · intro w _; go_simp; try with_reducible rfl
        simp only [List.getElem_toArray, List.getElem_cons_zero, List.getElem_cons_succ, Act.put, List.setIfInBounds_toArray, List.set_cons_zero, List.set_cons_succ]
        refine wpAnyH_take (i := 8) (v := ?_) rfl (by kernel_rfl) (by kernel_rfl) (by kernel_rfl) (fun _ _ _ h => h) (Or.inl ⟨by rfl, ?_⟩) hS ?_
        rotate_left
        · intro w _; go_simp; try with_reducible rfl
        simp only [List.getElem_toArray, List.getElem_cons_zero, List.getElem_cons_succ, Act.put, List.setIfInBounds_toArray, List.set_cons_zero, List.set_cons_succ]
        refine wpAnyH_take (i := 9) (v := ?_) rfl (by kernel_rfl) (by kernel_rfl) (by kernel_rfl) (fun _ _ _ h => h) (Or.inl ⟨by rfl, ?_⟩) hS ?_
        rotate_left
        · intro w _; go_simp; try with_reducible rfl
        simp only [List.getElem_toArray, List.getElem_cons_zero, List.getElem_cons_succ, Act.put, List.setIfInBounds_toArray, List.set_cons_zero, List.set_cons_succ]
        refine wpAnyH_take (i := 10) (v := ?_) rfl (by kernel_rfl) (by kernel_rfl) (by kernel_rfl) (fun _ _ _ h => h) (Or.inl ⟨by rfl, ?_⟩) hS ?_
        rotate_left
        · intro w _; go_simp; try with_reducible rfl
        simp only [List.getElem_toArray, List.getElem_cons_zero, List.getElem_cons_succ, Act.put, List.setIfInBounds_toArray, List.set_cons_zero, List.set_cons_succ]
        refine wpAnyH_take (i := 11) (v := ?_) rfl (by kernel_rfl) (by kernel_rfl) (by kernel_rfl) (fun _ _ _ h => h) (Or.inl ⟨by rfl, ?_⟩) hS ?_
        rotate_left
        · intro w _; go_simp; try with_reducible rfl
        simp only [List.getElem_toArray, List.getElem_cons_zero, List.getElem_cons_succ, Act.put, List.setIfInBounds_toArray, List.set_cons_zero, List.set_cons_succ]
        refine wpAnyH_take (i := 5) (v := dval z) rfl (by kernel_rfl) (by kernel_rfl) (by kernel_rfl) (fun _ _ _ h => h) (yieldsIf_load_D (by rfl) 64 _ rfl b (off + M * 32) rfl z dz _ (fun W h => h) Tryd.underlying64 rfl sizeD) hS ?_
        have blt : b < (World.drew w2).heap.size := World.block_lt_of_cell? _ _ (hr2 0 (.int .u8 (nth z 0)) (by rw [List.getElem?_map, List.getElem?_eq_getElem (by rw [dz.1]; omega), nth_get _ _ (by rw [dz.1]; omega)]; rfl))
        obtain ⟨g3, hg3⟩ : ∃ g, g = (World.drew w2).heap.size := ⟨_, rfl⟩
        have hk1d : Rw (World.drew w2) g1 64 (d.map (Value.int .u8)) := hk1
        have hk2d : Rw (World.drew w2) g2 64 (noDig.map (Value.int .u8)) := hk2
        have hBd : Below w.heap.size w (World.drew w2) := below_drewN hB 1
        have sqd : SlD (World.drew w2) (some ⟨b, off, none⟩) cap q := sq.below hBd
        obtain ⟨W, hW⟩ : ∃ W, W = World.drew w2 := ⟨_, rfl⟩
        rw [← hW] at hS blt hg3 hk1d hk2d hBd sqd ⊢
        have HG3 := Lib.hid hg3
        have HK := Lib.hid hk
        have W3 : Hid (w.heap.size ≤ g3 ∧ g1 ≠ g3 ∧ g2 ≠ g3 ∧ b ≠ g3) := Lib.hid ⟨by rw [hg3]; exact hBd.size, by rw [hg3]; exact Nat.ne_of_lt hk1d.lt, by rw [hg3]; exact Nat.ne_of_lt hk2d.lt, by rw [hg3]; exact Nat.ne_of_lt blt⟩
        clear hr2 hr hW hk1 hk2 hB sq hg3 hk
        refine wpAnyH_ready (rs := [12, 13]) (by kernel_rfl) (by simp) ?_
        refine AllReadyH.cons rfl (fun K hK => ?_) (AllReadyH.cons rfl (fun K hK => ?_) AllReadyH.nil) <;> rw [if_pos (by rfl)] <;> simp only [List.getElem_toArray, List.getElem_cons_zero, List.getElem_cons_succ]
        go_simp
        refine (hs _).mono ?_; rintro e w' ⟨rfl, hw'⟩; have hw2 := hw'.symm; subst hw2; clear hw'
        dsimp only
        refine hK.out _ _ hS (fun hS => ?_)
        refine wpAnyH_ready (rs := [13]) (by kernel_rfl) (by simp) ?_
        refine AllReadyH.cons rfl (fun K hK => ?_) AllReadyH.nil
        rw [if_pos (by rfl)]
        simp only [List.getElem_toArray, List.getElem_cons_zero, List.getElem_cons_succ]
        refine wp_alloc_D 64 rfl zeroD ?_
        intro w3 hk3 hs3 hb3
        rw [← HG3.out] at hk3 ⊢
        refine hK.out _ _ (World.rangeAt.keep (show W.rangeAt b (off + M * 32) (z.map (Value.int .u8)) from hS) dz hb3) (fun hS => ?_)
        rotate_left
        refine wp_alloc_D 64 rfl zeroD ?_
        intro w3 hk3 hs3 hb3
        rw [← HG3.out] at hk3 ⊢
        refine hK.out _ _ (World.rangeAt.keep (show W.rangeAt b (off + M * 32) (z.map (Value.int .u8)) from hS) dz hb3) (fun hS => ?_)
        refine wpAnyH_ready (rs := [12]) (by kernel_rfl) (by simp) ?_
        refine AllReadyH.cons rfl (fun K hK => ?_) AllReadyH.nil
        rw [if_pos (by rfl)]
        simp only [List.getElem_toArray, List.getElem_cons_zero, List.getElem_cons_succ]
        go_simp
        refine (hs _).mono ?_; rintro e w' ⟨rfl, hw'⟩; have hw2 := hw'.symm; subst hw2; clear hw'
        dsimp only
        refine hK.out _ _ hS (fun hS => ?_)
        rotate_left
        all_goals (
          have hk1e := hk1d.keep hb3
          have hk2e := hk2d.keep hb3
          have hBe := hBd.trans (hb3.mono hBd.size)
          have sqe := sqd.below hb3
          refine wpAnyH_ready (rs := [14]) (by kernel_rfl) (by simp) ?_
          refine AllReadyH.cons rfl (fun K hK => ?_) AllReadyH.nil
          rw [if_pos (by rfl)]
          simp only [List.getElem_toArray, List.getElem_cons_zero, List.getElem_cons_succ]
          refine wp_store_V 64 _ _ rfl g3 64 noDig z rfl rfl hk3 dig_no dz sizeD ?_
          intro w4 hk4 hg4 hs4
          refine hK.out _ _ (World.rangeAt.grown (show w3.rangeAt b (off + M * 32) (z.map (Value.int .u8)) from hS) dz hg4 (fun e => W3.out.2.2.2 (Option.some.inj e))) (fun hS => ?_)
          have hk1f := hk1e.grown hg4 (fun e => W3.out.2.1 (Option.some.inj e))
          have hk2f := hk2e.grown hg4 (fun e => W3.out.2.2.1 (Option.some.inj e))
          have hBf := hBe.grown hg4 hBe.size (by intro g hg; cases hg; exact W3.out.1)
          have sqf : SlD w4 (some ⟨b, off, none⟩) cap q := sqe.grown hg4 (fun b' off' e e2 => by cases e; exact W3.out.2.2.2 (Option.some.inj e2))
          refine wpAnyH_ready (rs := [15]) (by kernel_rfl) (by simp) ?_
          refine AllReadyH.cons rfl (fun K hK => ?_) AllReadyH.nil
          rw [if_pos (by rfl)]
          simp only [List.getElem_toArray, List.getElem_cons_zero, List.getElem_cons_succ]
          go_simp
          refine hK.out _ _ hS (fun hS => ?_)
          refine wpAnyH_ready (rs := [16]) (by kernel_rfl) (by simp) ?_
          refine AllReadyH.cons rfl (fun K hK => ?_) AllReadyH.nil
          rw [if_pos (by rfl)]
          simp only [List.getElem_toArray, List.getElem_cons_zero, List.getElem_cons_succ]
          go_simp
          refine hK.out _ _ hS (fun hS => ?_)
          refine wpAnyH_done (by kernel_rfl) ?_ _
          have k0 : 0 < k := by rw [HK.out]; exact Nat.pow_pos (by omega)
          by_cases hik : i < k
          · have cl := IH k (by omega) j i d (some ⟨b, off, none⟩) cap q w4 (by omega) (Nat.le_of_eq HK.out) (by omega) (by omega) dd sqf (ht.below hBf)
            rw [← HM.out] at cl
            have hd : decide ((i : Int) < (k : Int)) = true := decide_eq_true (by omega)
            have hi2 : (i : Int) < (k : Int) := by omega
            go_wp2_with (refine wpList_load_V rfl 64 _ rfl g1 64 d rfl hk1f dd _ Tryd.underlying64 rfl sizeD ?_)
            refine cl.mono ?_; rintro e w5 ⟨x, ok, rfl, dx, er, hb5⟩
            have ER := Lib.hid er
            have hk2g := hk2f.keep hb5
            have hk4g := hk4.keep hb5
            have hB5 := hBf.trans (hb5.mono hBf.size)
            clear cl er hk1f hk2f sqf hBf hk4
            go_wp2_with (with_reducible refine wpList_alloc_rw rfl 64 rfl (noDig.map (Value.int .u8)) _ zeroD ?_)
            intro w6 hk6 hs_ hb6
            have HS_w6 := Lib.hid hs_
            clear hs_
            obtain ⟨g6, hg6⟩ : ∃ g, g = w5.heap.size := ⟨_, rfl⟩
            rw [← hg6] at hk6 ⊢
            have n26 : g2 ≠ g6 := by rw [hg6]; exact Nat.ne_of_lt hk2g.lt
            have n36 : g3 ≠ g6 := by rw [hg6]; exact Nat.ne_of_lt hk4g.lt
            have w66 : w.heap.size ≤ g6 := by rw [hg6]; exact hB5.size
            clear hg6
            have hk2h := hk2g.keep hb6
            have hk4h := hk4g.keep hb6
            have hB6 := hB5.trans (hb6.mono hB5.size)
            go_wp2_with (refine wpList_store_V rfl 64 _ _ rfl g6 64 noDig x rfl rfl hk6 dig_no dx sizeD ?_)
            intro w7 hk7 hg7 hs7
            have hk2i := hk2h.grown hg7 (fun e => n26 (Option.some.inj e))
            have hk4i := hk4h.grown hg7 (fun e => n36 (Option.some.inj e))
            have hB7 := hB6.grown hg7 hB6.size (by intro g hg; cases hg; exact w66)
            have pc := pair_c x z w7 dx dz (ht.below hB7)
            clear hk2g hk4g hb6 hk2h hk4h hB5 hB6 hk6 hg7 hb5
            go_wp2_with (first | (refine wpList_load_V rfl 64 _ rfl g6 64 x rfl hk7 dx _ Tryd.underlying64 rfl sizeD ?_) | (refine wpList_load_V rfl 64 _ rfl g3 64 z rfl hk4i dz _ Tryd.underlying64 rfl sizeD ?_))
            refine pc.mono ?_; rintro e w8 ⟨rfl, hb8⟩
            have hk2j := hk2i.keep hb8
            have hB8 := hB7.trans (hb8.mono hB7.size)
            clear pc hk2i hk7 hk4i
            go_wp2_with (refine wpList_store_V rfl 64 _ _ rfl g2 64 noDig (pairD x z) rfl rfl hk2j dig_no (shaD_dig _) sizeD ?_)
            intro w9 hk9 hg9 hs9
            go_wp2_with fail
            refine bodyPost_ret (v := .tuple #[dval (pairD x z), .bool ok]) (results_dig_tmp (p := 8) (u := 9) rfl rfl hk9 (shaD_dig _) Tryd.underlying64 rfl sizeD) rfl ⟨pairD x z, ok, rfl, shaD_dig _, ?_, hB8.grown hg9 hB8.size (by intro g hg; cases hg; exact l2)⟩
            rw [foldH_any hh (h' := j + 1) hnk, foldH_left (by rw [← HK.out]; omega) (by rw [← HK.out]; omega), ← HK.out, ER.out]
            cases ok <;> rfl
          · have cl := IH (n - k) (by omega) j (i - k) d (some ⟨b, off, none⟩) cap q w4 (by omega) (by have := HK.out; have := pow2_succ j; omega) (by omega) (by omega) dd sqf (ht.below hBf)
            rw [← HM.out] at cl
            rw [show ((n - k : Nat) : Int) = (n : Int) - (k : Int) by omega, show ((i - k : Nat) : Int) = (i : Int) - (k : Int) by omega] at cl
            have hd : decide ((i : Int) < (k : Int)) = false := decide_eq_false (by omega)
            have hi2 : ¬ (i : Int) < (k : Int) := by omega
            have kk : (k : Int) < (n : Int) := by omega
            have nn : (n : Int) ≤ 9223372036854775807 := by omega
            have ii : (i : Int) < (n : Int) := by omega
            go_wp2_with (refine wpList_load_V rfl 64 _ rfl g1 64 d rfl hk1f dd _ Tryd.underlying64 rfl sizeD ?_)
            refine cl.mono ?_; rintro e w5 ⟨x, ok, rfl, dx, er, hb5⟩
            have ER := Lib.hid er
            have hk2g := hk2f.keep hb5
            have hk4g := hk4.keep hb5
            have hB5 := hBf.trans (hb5.mono hBf.size)
            clear cl er hk1f hk2f sqf hBf hk4
            go_wp2_with (with_reducible refine wpList_alloc_rw rfl 64 rfl (noDig.map (Value.int .u8)) _ zeroD ?_)
            intro w6 hk6 hs_ hb6
            have HS_w6 := Lib.hid hs_
            clear hs_
            obtain ⟨g6, hg6⟩ : ∃ g, g = w5.heap.size := ⟨_, rfl⟩
            rw [← hg6] at hk6 ⊢
            have n26 : g2 ≠ g6 := by rw [hg6]; exact Nat.ne_of_lt hk2g.lt
            have n36 : g3 ≠ g6 := by rw [hg6]; exact Nat.ne_of_lt hk4g.lt
            have w66 : w.heap.size ≤ g6 := by rw [hg6]; exact hB5.size
            clear hg6
            have hk2h := hk2g.keep hb6
            have hk4h := hk4g.keep hb6
            have hB6 := hB5.trans (hb6.mono hB5.size)
            go_wp2_with (refine wpList_store_V rfl 64 _ _ rfl g6 64 noDig x rfl rfl hk6 dig_no dx sizeD ?_)
            intro w7 hk7 hg7 hs7
            have hk2i := hk2h.grown hg7 (fun e => n26 (Option.some.inj e))
            have hk4i := hk4h.grown hg7 (fun e => n36 (Option.some.inj e))
            have hB7 := hB6.grown hg7 hB6.size (by intro g hg; cases hg; exact w66)
            have pc := pair_c z x w7 dz dx (ht.below hB7)
            clear hk2g hk4g hb6 hk2h hk4h hB5 hB6 hk6 hg7 hb5
            go_wp2_with (first | (refine wpList_load_V rfl 64 _ rfl g6 64 x rfl hk7 dx _ Tryd.underlying64 rfl sizeD ?_) | (refine wpList_load_V rfl 64 _ rfl g3 64 z rfl hk4i dz _ Tryd.underlying64 rfl sizeD ?_))
            refine pc.mono ?_; rintro e w8 ⟨rfl, hb8⟩
            have hk2j := hk2i.keep hb8
            have hB8 := hB7.trans (hb8.mono hB7.size)
            clear pc hk2i hk7 hk4i
            go_wp2_with (refine wpList_store_V rfl 64 _ _ rfl g2 64 noDig (pairD z x) rfl rfl hk2j dig_no (shaD_dig _) sizeD ?_)
            intro w9 hk9 hg9 hs9
            go_wp2_with fail
            refine bodyPost_ret (v := .tuple #[dval (pairD z x), .bool ok]) (results_dig_tmp (p := 8) (u := 9) rfl rfl hk9 (shaD_dig _) Tryd.underlying64 rfl sizeD) rfl ⟨pairD z x, ok, rfl, shaD_dig _, ?_, hB8.grown hg9 hB8.size (by intro g hg; cases hg; exact l2)⟩
            rw [foldH_any hh (h' := j + 1) hnk, foldH_right (by rw [← HK.out]; omega) (by rw [← HK.out]; omega), ← HK.out, ER.out]
            cases ok <;> rfl)

end Go.Proofs.YtmbifokiebjmmaaDoor
