import Derived.Test.YtmbifokiebjmmaaDoorZ19
import Derived.Test.YtmbifokiebjmmaaDoorZ16
/- package log: Grown by its contract. (Printed by gen_logy.py.) -/
set_option linter.unusedVariables false
set_option linter.unusedSimpArgs false
namespace Go.Proofs.YtmbifokiebjmmaaDoor
open Go.RowKit Go.Sg
set_option maxHeartbeats 16000000 in
set_option maxRecDepth 20000 in
theorem Grown_c (a a' A : Option Addr) (cap cap' cap2 : Nat) (old root : List Int) (ps : List Part) (n m : Int) (w : World) (so : Sl .u8 w a cap old) (uo : U8 old) (sr : Sl .u8 w a' cap' root) (ur : U8 root) (hr : Rows_ w A ps) (hn : ps.length ≤ 4294967296)
    (bm : m ≤ 9223372036854775807) (ht : ShaTabs w) :
    Calls Tryd.prog 24 #[.slice a old.length cap, .int .i64 n, .slice a' root.length cap', .int .i64 m, .slice A ps.length cap2] w (TellPost (decide (growP old n root m (ps.map (·.xs)))) w) := by
  obtain ⟨r, hr'⟩ : ∃ r, r = old.length := ⟨_, rfl⟩
  obtain ⟨l, hl'⟩ : ∃ l, l = root.length := ⟨_, rfl⟩
  obtain ⟨z, hz'⟩ : ∃ m, m = ps.length := ⟨_, rfl⟩
  have HR := Lib.hid hr'
  have HL := Lib.hid hl'
  have HM := Lib.hid hz'
  have al := (Below.refl w.heap.size w).alloc (Nat.le_refl _) (.cells #[.slice a r cap, .slice a' l cap'] 25)
  have c1 := in_c (some ⟨w.heap.size, 0, none⟩) 2 [⟨a, cap, old⟩, ⟨a', cap', root⟩] (w.alloc (.cells #[.slice a r cap, .slice a' l cap'] 25)) (rows_new w 25 [⟨a, cap, old⟩, ⟨a', cap', root⟩] _ (by rw [hr', hl']; rfl) (by
    intro p hp
    simp only [List.mem_cons, List.not_mem_nil, or_false] at hp
    rcases hp with rfl | rfl
    · exact so
    · exact sr) (by
    intro p hp
    simp only [List.mem_cons, List.not_mem_nil, or_false] at hp
    rcases hp with rfl | rfl
    · exact uo
    · exact ur)) (by simp)
  unfold InPost at c1
  have e1 : Hid ((∀ p ∈ [(⟨a, cap, old⟩ : Part), ⟨a', cap', root⟩], p.xs.length = 32) ↔ (old.length = 32 ∧ root.length = 32)) := Lib.hid (by simp)
  have c2 := fun W (k : Below w.heap.size w W) => in_c A cap2 ps W (hr.below k) hn
  unfold InPost at c2
  have e2 : Hid ((∀ p ∈ ps, p.xs.length = 32) ↔ (∀ x ∈ ps.map (·.xs), x.length = 32)) := Lib.hid (by simp)
  rw [← hr', ← hl', ← hz']
  rw [← hz'] at c2
  simp only [e1.out, List.map_cons, List.map_nil, List.length_cons, List.length_nil, Nat.zero_add, Nat.reduceAdd] at c1
  obtain ⟨B2, hB2'⟩ : ∃ b, b = decide (∀ p ∈ ps, p.xs.length = 32) := ⟨_, rfl⟩
  have HB2 := Lib.hid hB2'
  simp only [← hB2'] at c2
  clear hr' hl' hz' hr hn so sr hB2'
  by_cases h1 : old.length = 32 ∧ root.length = 32
  · simp only [decide_eq_true h1] at c1
    cases B2 with
    | false =>
      have e : Hid (decide (growP old n root m (ps.map (·.xs))) = false) := Lib.hid (decide_eq_false fun h => of_decide_eq_false HB2.out.symm (e2.out.2 h.2.1))

      go_enter Tryd.func24, Tryd.ntmps24
      go_wp2_with fail
      refine c1.mono ?_; rintro e_ w1 ⟨v, rfl, hv, hb⟩
      have hB := al.trans (hb.mono al.size)
      have c3 := c2 _ hB
      clear c1 c2
      go_wp2_with fail
      refine c3.mono ?_; rintro e_ w2 ⟨v2, rfl, hv2, hb2⟩
      have hB2 := hB.trans (hb2.mono hB.size)
      clear c3

      go_wp2_with fail
      go_ret
      exact ⟨by rw [e.out]; rfl, hB2⟩
    | true =>
      by_cases h3 : 0 ≤ n
      · by_cases h4 : n ≤ m
        · have h2 := of_decide_eq_true HB2.out.symm
          have g3 : decide (n < 0) = false := decide_eq_false (by omega)
          have g4 : decide (m < n) = false := decide_eq_false (by omega)
          have g5 : decide (n > m) = false := decide_eq_false (by omega)
          have g6 : ¬ n < 0 := by omega
          have g7 : ¬ m < n := by omega
          by_cases h0 : n = 0
          · subst h0
            go_enter Tryd.func24, Tryd.ntmps24
            go_wp2_with fail
            refine c1.mono ?_; rintro e_ w1 ⟨v, rfl, hv, hb⟩
            have hB := al.trans (hb.mono al.size)
            have c3 := c2 _ hB
            clear c1 c2
            go_wp2_with fail
            refine c3.mono ?_; rintro e_ w2 ⟨v2, rfl, hv2, hb2⟩
            have hB2 := hB.trans (hb2.mono hB.size)
            clear c3

            replace hv := (hv h1).keep hb2
            replace hv2 := hv2 h2
            obtain ⟨ae, ce, rfl, se⟩ := hv.sl
            obtain ⟨ap, cp, rfl, sp⟩ := hv2.sl
            have do_ : Dig old := ⟨h1.1, uo⟩
            have dr : Dig root := ⟨h1.2, ur⟩
            obtain ⟨b, off, rfl, r1⟩ := se.range (i := 1) (by simp)
            obtain ⟨b', off', eb, r0⟩ := se.range (i := 0) (by simp)
            cases eb
            simp only [List.getElem_cons_succ, List.getElem_cons_zero, Nat.one_mul, Nat.zero_mul, Nat.add_zero] at r0 r1
            obtain ⟨Q, hQ⟩ : ∃ Q, Q = ps.map (·.xs) := ⟨_, rfl⟩
            rw [← hQ] at sp ⊢
            obtain ⟨y, hy⟩ : ∃ z, z = Q.length := ⟨_, rfl⟩
            have HY := Lib.hid hy
            have HQ := Lib.hid hQ
            have l2 : ([old, root] : List (List Int)).length = 2 := rfl
            rw [l2]
            clear l2 hb hb2 hB h2 hv hv2 se

            have fin : Hid (decide (growP old 0 root m (ps.map (·.xs))) = (decide (Q = []) && decide (old = shaD []) && (decide (0 < m) || decide (root = old)))) := Lib.hid (by
              have e : growP old 0 root m Q ↔ (Q = [] ∧ old = shaD [] ∧ (0 < m ∨ root = old)) := by
                unfold growP
                rw [if_pos rfl]
                refine ⟨fun h => h.2.2.2.2, fun h => ⟨h1, ?_, by omega, h4, h⟩⟩
                rw [HQ.out]
                exact e2.out.1 (of_decide_eq_true HB2.out.symm)
              rw [show ps.map (·.xs) = Q from HQ.out.symm]
              exact Bool.eq_iff_iff.2 (by
                simp only [decide_eq_true_eq, Bool.and_eq_true, Bool.or_eq_true]
                rw [e]
                exact ⟨fun h => ⟨⟨h.1, h.2.1⟩, h.2.2⟩, fun h => ⟨h.1.1, h.1.2, h.2⟩⟩))
            rw [← hy]
            clear hQ
            by_cases hy0 : 0 < y
            · have y1 : ((y : Int) == 0) = false := by simp; omega
              have y2 : decide (Q = []) = false := decide_eq_false (fun h => by subst h; simp at hy; omega)
              clear hy
              go_wp2_with fail
              refine wp_region_held_drew (S := fun W => W.rangeAt b off (old.map (Value.int .u8)) ∧ W.rangeAt b (off + 32) (root.map (Value.int .u8))) (by kernel_rfl) (⟨r0, r1⟩) (fun hS => ?_)
              refine wpAnyH_take (i := 0) (v := ?_) rfl (by kernel_rfl) (by kernel_rfl) (by kernel_rfl) (fun _ _ _ h => h) (Or.inl ⟨by rfl, ?_⟩) hS ?_
              rotate_left
              · intro w _; go_simp; try with_reducible rfl
              simp only [List.getElem_toArray, List.getElem_cons_zero, List.getElem_cons_succ, Act.put, List.setIfInBounds_toArray, List.set_cons_zero, List.set_cons_succ]
              refine wpAnyH_take (i := 1) (v := ?_) rfl (by kernel_rfl) (by kernel_rfl) (by kernel_rfl) (fun _ _ _ h => h) (Or.inl ⟨by rfl, ?_⟩) hS ?_
              rotate_left
              · intro w _; go_simp; try with_reducible rfl
              simp only [List.getElem_toArray, List.getElem_cons_zero, List.getElem_cons_succ, Act.put, List.setIfInBounds_toArray, List.set_cons_zero, List.set_cons_succ]
              refine wpAnyH_take (i := 2) (v := ?_) rfl (by kernel_rfl) (by kernel_rfl) (by kernel_rfl) (fun _ _ _ h => h) (Or.inl ⟨by rfl, ?_⟩) hS ?_
              rotate_left
              · intro w _; go_simp; try with_reducible rfl
              simp only [List.getElem_toArray, List.getElem_cons_zero, List.getElem_cons_succ, Act.put, List.setIfInBounds_toArray, List.set_cons_zero, List.set_cons_succ]
              refine wpAnyH_take (i := 3) (v := ?_) rfl (by kernel_rfl) (by kernel_rfl) (by kernel_rfl) (fun _ _ _ h => h) (Or.inl ⟨by rfl, ?_⟩) hS ?_
              rotate_left
              · intro w _; go_simp; try with_reducible rfl
              simp only [List.getElem_toArray, List.getElem_cons_zero, List.getElem_cons_succ, Act.put, List.setIfInBounds_toArray, List.set_cons_zero, List.set_cons_succ]
              refine wpAnyH_take (i := 4) (v := undef) rfl (by kernel_rfl) (by kernel_rfl) (by kernel_rfl) (fun _ _ _ h => h) (Or.inr ⟨by rfl, rfl⟩) hS ?_
              simp only [List.getElem_toArray, List.getElem_cons_zero, List.getElem_cons_succ, Act.put, List.setIfInBounds_toArray, List.set_cons_zero, List.set_cons_succ]
              refine wpAnyH_take (i := 5) (v := undef) rfl (by kernel_rfl) (by kernel_rfl) (by kernel_rfl) (fun _ _ _ h => h) (Or.inr ⟨by rfl, rfl⟩) hS ?_
              simp only [List.getElem_toArray, List.getElem_cons_zero, List.getElem_cons_succ, Act.put, List.setIfInBounds_toArray, List.set_cons_zero, List.set_cons_succ]
              refine wpAnyH_take (i := 6) (v := undef) rfl (by kernel_rfl) (by kernel_rfl) (by kernel_rfl) (fun _ _ _ h => h) (Or.inr ⟨by rfl, rfl⟩) hS ?_
              simp only [List.getElem_toArray, List.getElem_cons_zero, List.getElem_cons_succ, Act.put, List.setIfInBounds_toArray, List.set_cons_zero, List.set_cons_succ]
              refine wpAnyH_take (i := 7) (v := undef) rfl (by kernel_rfl) (by kernel_rfl) (by kernel_rfl) (fun _ _ _ h => h) (Or.inr ⟨by rfl, rfl⟩) hS ?_
              simp only [List.getElem_toArray, List.getElem_cons_zero, List.getElem_cons_succ, Act.put, List.setIfInBounds_toArray, List.set_cons_zero, List.set_cons_succ]
              refine wpAnyH_take (i := 8) (v := undef) rfl (by kernel_rfl) (by kernel_rfl) (by kernel_rfl) (fun _ _ _ h => h) (Or.inr ⟨by rfl, rfl⟩) hS ?_
              simp only [List.getElem_toArray, List.getElem_cons_zero, List.getElem_cons_succ, Act.put, List.setIfInBounds_toArray, List.set_cons_zero, List.set_cons_succ]
              refine wpAnyH_take (i := 9) (v := ?_) rfl (by kernel_rfl) (by kernel_rfl) (by kernel_rfl) (fun _ _ _ h => h) (Or.inl ⟨by rfl, ?_⟩) hS ?_
              rotate_left
              · intro w _; go_simp; try with_reducible rfl
              simp only [List.getElem_toArray, List.getElem_cons_zero, List.getElem_cons_succ, Act.put, List.setIfInBounds_toArray, List.set_cons_zero, List.set_cons_succ]
              refine wpAnyH_take (i := 10) (v := ?_) rfl (by kernel_rfl) (by kernel_rfl) (by kernel_rfl) (fun _ _ _ h => h) (Or.inl ⟨by rfl, ?_⟩) hS ?_
              rotate_left
              · intro w _; go_simp; try with_reducible rfl
              simp only [List.getElem_toArray, List.getElem_cons_zero, List.getElem_cons_succ, Act.put, List.setIfInBounds_toArray, List.set_cons_zero, List.set_cons_succ]
              refine wpAnyH_take (i := 11) (v := undef) rfl (by kernel_rfl) (by kernel_rfl) (by kernel_rfl) (fun _ _ _ h => h) (Or.inr ⟨by rfl, rfl⟩) hS ?_
              simp only [List.getElem_toArray, List.getElem_cons_zero, List.getElem_cons_succ, Act.put, List.setIfInBounds_toArray, List.set_cons_zero, List.set_cons_succ]
              refine wpAnyH_take (i := 12) (v := undef) rfl (by kernel_rfl) (by kernel_rfl) (by kernel_rfl) (fun _ _ _ h => h) (Or.inr ⟨by rfl, rfl⟩) hS ?_
              simp only [List.getElem_toArray, List.getElem_cons_zero, List.getElem_cons_succ, Act.put, List.setIfInBounds_toArray, List.set_cons_zero, List.set_cons_succ]
              refine wpAnyH_take (i := 13) (v := undef) rfl (by kernel_rfl) (by kernel_rfl) (by kernel_rfl) (fun _ _ _ h => h) (Or.inr ⟨by rfl, rfl⟩) hS ?_
              simp only [List.getElem_toArray, List.getElem_cons_zero, List.getElem_cons_succ, Act.put, List.setIfInBounds_toArray, List.set_cons_zero, List.set_cons_succ]
              refine wpAnyH_take (i := 14) (v := undef) rfl (by kernel_rfl) (by kernel_rfl) (by kernel_rfl) (fun _ _ _ h => h) (Or.inr ⟨by rfl, rfl⟩) hS ?_
              simp only [List.getElem_toArray, List.getElem_cons_zero, List.getElem_cons_succ, Act.put, List.setIfInBounds_toArray, List.set_cons_zero, List.set_cons_succ]
              refine wpAnyH_take (i := 15) (v := undef) rfl (by kernel_rfl) (by kernel_rfl) (by kernel_rfl) (fun _ _ _ h => h) (Or.inr ⟨by rfl, rfl⟩) hS ?_
              simp only [List.getElem_toArray, List.getElem_cons_zero, List.getElem_cons_succ, Act.put, List.setIfInBounds_toArray, List.set_cons_zero, List.set_cons_succ]
              refine wpAnyH_take (i := 16) (v := undef) rfl (by kernel_rfl) (by kernel_rfl) (by kernel_rfl) (fun _ _ _ h => h) (Or.inr ⟨by rfl, rfl⟩) hS ?_
              simp only [List.getElem_toArray, List.getElem_cons_zero, List.getElem_cons_succ, Act.put, List.setIfInBounds_toArray, List.set_cons_zero, List.set_cons_succ]
              refine wpAnyH_take (i := 17) (v := undef) rfl (by kernel_rfl) (by kernel_rfl) (by kernel_rfl) (fun _ _ _ h => h) (Or.inr ⟨by rfl, rfl⟩) hS ?_
              simp only [List.getElem_toArray, List.getElem_cons_zero, List.getElem_cons_succ, Act.put, List.setIfInBounds_toArray, List.set_cons_zero, List.set_cons_succ]
              refine wpAnyH_take (i := 18) (v := undef) rfl (by kernel_rfl) (by kernel_rfl) (by kernel_rfl) (fun _ _ _ h => h) (Or.inr ⟨by rfl, rfl⟩) hS ?_
              simp only [List.getElem_toArray, List.getElem_cons_zero, List.getElem_cons_succ, Act.put, List.setIfInBounds_toArray, List.set_cons_zero, List.set_cons_succ]
              refine wpAnyH_take (i := 19) (v := undef) rfl (by kernel_rfl) (by kernel_rfl) (by kernel_rfl) (fun _ _ _ h => h) (Or.inr ⟨by rfl, rfl⟩) hS ?_
              simp only [List.getElem_toArray, List.getElem_cons_zero, List.getElem_cons_succ, Act.put, List.setIfInBounds_toArray, List.set_cons_zero, List.set_cons_succ]
              refine wpAnyH_take (i := 20) (v := undef) rfl (by kernel_rfl) (by kernel_rfl) (by kernel_rfl) (fun _ _ _ h => h) (Or.inr ⟨by rfl, rfl⟩) hS ?_
              simp only [List.getElem_toArray, List.getElem_cons_zero, List.getElem_cons_succ, Act.put, List.setIfInBounds_toArray, List.set_cons_zero, List.set_cons_succ]
              refine wpAnyH_take (i := 21) (v := undef) rfl (by kernel_rfl) (by kernel_rfl) (by kernel_rfl) (fun _ _ _ h => h) (Or.inr ⟨by rfl, rfl⟩) hS ?_
              simp only [List.getElem_toArray, List.getElem_cons_zero, List.getElem_cons_succ, Act.put, List.setIfInBounds_toArray, List.set_cons_zero, List.set_cons_succ]
              refine wpAnyH_take (i := 22) (v := ?_) rfl (by kernel_rfl) (by kernel_rfl) (by kernel_rfl) (fun _ _ _ h => h) (Or.inl ⟨by rfl, ?_⟩) hS ?_
              rotate_left
              · intro w _; go_simp; try with_reducible rfl
              simp only [List.getElem_toArray, List.getElem_cons_zero, List.getElem_cons_succ, Act.put, List.setIfInBounds_toArray, List.set_cons_zero, List.set_cons_succ]
              refine wpAnyH_take (i := 23) (v := ?_) rfl (by kernel_rfl) (by kernel_rfl) (by kernel_rfl) (fun _ _ _ h => h) (Or.inl ⟨by rfl, ?_⟩) hS ?_
              rotate_left
              · intro w _; go_simp; try with_reducible rfl
              simp only [List.getElem_toArray, List.getElem_cons_zero, List.getElem_cons_succ, Act.put, List.setIfInBounds_toArray, List.set_cons_zero, List.set_cons_succ]
              refine wpAnyH_done (by kernel_rfl) ?_ _
              clear hS
              go_wp2_with fail
              go_ret
              exact ⟨by rw [fin.out, y2]; rfl, below_drewN hB2 1⟩
            · obtain rfl : Q = [] := List.length_eq_zero_iff.1 (by omega)
              obtain rfl : y = 0 := hy
              have ch := hash_c none 0 [] (World.drew w2) ⟨fun h => (by simp at h), fun p hp => (by cases hp), fun p hp => (by cases hp)⟩ (by simp) (by simp [flat]) (ht.below (below_drewN hB2 1))
              rw [show flat [] = ([] : List Int) from rfl] at ch
              simp only [List.length_nil] at ch
              go_wp2_with fail
              refine wp_region_held_drew (S := fun W => W.rangeAt b off (old.map (Value.int .u8)) ∧ W.rangeAt b (off + 32) (root.map (Value.int .u8))) (by kernel_rfl) (⟨r0, r1⟩) (fun hS => ?_)
              refine wpAnyH_take (i := 0) (v := ?_) rfl (by kernel_rfl) (by kernel_rfl) (by kernel_rfl) (fun _ _ _ h => h) (Or.inl ⟨by rfl, ?_⟩) hS ?_
              rotate_left
              · intro w _; go_simp; try with_reducible rfl
              simp only [List.getElem_toArray, List.getElem_cons_zero, List.getElem_cons_succ, Act.put, List.setIfInBounds_toArray, List.set_cons_zero, List.set_cons_succ]
              refine wpAnyH_take (i := 1) (v := ?_) rfl (by kernel_rfl) (by kernel_rfl) (by kernel_rfl) (fun _ _ _ h => h) (Or.inl ⟨by rfl, ?_⟩) hS ?_
              rotate_left
              · intro w _; go_simp; try with_reducible rfl
              simp only [List.getElem_toArray, List.getElem_cons_zero, List.getElem_cons_succ, Act.put, List.setIfInBounds_toArray, List.set_cons_zero, List.set_cons_succ]
              refine wpAnyH_take (i := 2) (v := ?_) rfl (by kernel_rfl) (by kernel_rfl) (by kernel_rfl) (fun _ _ _ h => h) (Or.inl ⟨by rfl, ?_⟩) hS ?_
              rotate_left
              · intro w _; go_simp; try with_reducible rfl
              simp only [List.getElem_toArray, List.getElem_cons_zero, List.getElem_cons_succ, Act.put, List.setIfInBounds_toArray, List.set_cons_zero, List.set_cons_succ]
              refine wpAnyH_take (i := 3) (v := ?_) rfl (by kernel_rfl) (by kernel_rfl) (by kernel_rfl) (fun _ _ _ h => h) (Or.inl ⟨by rfl, ?_⟩) hS ?_
              rotate_left
              · intro w _; go_simp; try with_reducible rfl
              simp only [List.getElem_toArray, List.getElem_cons_zero, List.getElem_cons_succ, Act.put, List.setIfInBounds_toArray, List.set_cons_zero, List.set_cons_succ]
              refine wpAnyH_take (i := 4) (v := ?_) rfl (by kernel_rfl) (by kernel_rfl) (by kernel_rfl) (fun _ _ _ h => h) (Or.inl ⟨by rfl, ?_⟩) hS ?_
              rotate_left
              · intro w _; go_simp; try with_reducible rfl
              simp only [List.getElem_toArray, List.getElem_cons_zero, List.getElem_cons_succ, Act.put, List.setIfInBounds_toArray, List.set_cons_zero, List.set_cons_succ]
              refine wpAnyH_take (i := 5) (v := ?_) rfl (by kernel_rfl) (by kernel_rfl) (by kernel_rfl) (fun _ _ _ h => h) (Or.inl ⟨by rfl, ?_⟩) hS ?_
              rotate_left
              · intro w _; go_simp; try with_reducible rfl
              simp only [List.getElem_toArray, List.getElem_cons_zero, List.getElem_cons_succ, Act.put, List.setIfInBounds_toArray, List.set_cons_zero, List.set_cons_succ]
              refine wpAnyH_take (i := 6) (v := dval old) rfl (by kernel_rfl) (by kernel_rfl) (by kernel_rfl) (fun _ _ _ h => h) (yieldsIf_load_D (by rfl) 64 _ rfl b (off) rfl old do_ _ (fun W h => h.1) Tryd.underlying64 rfl sizeD) hS ?_
              simp only [List.getElem_toArray, List.getElem_cons_zero, List.getElem_cons_succ, Act.put, List.setIfInBounds_toArray, List.set_cons_zero, List.set_cons_succ]
              refine wpAnyH_ready (rs := [7]) (by kernel_rfl) (by simp) ?_
              refine AllReadyH.cons rfl (fun K hK => ?_) AllReadyH.nil
              rw [if_pos (by rfl)]
              simp only [List.getElem_toArray, List.getElem_cons_zero, List.getElem_cons_succ]
              go_simp
              refine ch.mono ?_; rintro e_ w3 ⟨rfl, hb3⟩
              dsimp only
              have hB3 := (below_drewN hB2 1).trans (hb3.mono (below_drewN hB2 1).size)
              refine hK.out _ _ ⟨World.rangeAt.keep hS.1 do_ hb3, World.rangeAt.keep hS.2 dr hb3⟩ (fun hS => ?_)
              clear ch hb3
              by_cases he : old = shaD []
              · have de : decide (old = shaD []) = true := decide_eq_true he
                clear he
                refine wpAnyH_take (i := 8) (v := .bool true) rfl (by kernel_rfl) (by kernel_rfl) (by kernel_rfl) (fun _ _ _ h => h) (yieldsIf_eq_D (by rfl) 64 _ _ _ rfl old (shaD []) rfl rfl true (fun W_ => (eqD W_ _ _ do_ (shaD_dig _)).trans (by rw [de])) grdD) hS ?_
                simp only [List.getElem_toArray, List.getElem_cons_zero, List.getElem_cons_succ, Act.put, List.setIfInBounds_toArray, List.set_cons_zero, List.set_cons_succ]
                refine wpAnyH_take (i := 9) (v := ?_) rfl (by kernel_rfl) (by kernel_rfl) (by kernel_rfl) (fun _ _ _ h => h) (Or.inl ⟨by rfl, ?_⟩) hS ?_
                rotate_left
                · intro w _; go_simp; try with_reducible rfl
                simp only [List.getElem_toArray, List.getElem_cons_zero, List.getElem_cons_succ, Act.put, List.setIfInBounds_toArray, List.set_cons_zero, List.set_cons_succ]
                refine wpAnyH_take (i := 10) (v := ?_) rfl (by kernel_rfl) (by kernel_rfl) (by kernel_rfl) (fun _ _ _ h => h) (Or.inl ⟨by rfl, ?_⟩) hS ?_
                rotate_left
                · intro w _; go_simp; try with_reducible rfl
                simp only [List.getElem_toArray, List.getElem_cons_zero, List.getElem_cons_succ, Act.put, List.setIfInBounds_toArray, List.set_cons_zero, List.set_cons_succ]
                by_cases hm0 : 0 < m
                · have dm : decide (0 < m) = true := decide_eq_true hm0
                  have dm2 : decide (m > 0) = true := decide_eq_true hm0
                  refine wpAnyH_take (i := 11) (v := ?_) rfl (by kernel_rfl) (by kernel_rfl) (by kernel_rfl) (fun _ _ _ h => h) (Or.inl ⟨by rfl, ?_⟩) hS ?_
                  rotate_left
                  · intro w _; go_simp; try with_reducible rfl
                  simp only [List.getElem_toArray, List.getElem_cons_zero, List.getElem_cons_succ, Act.put, List.setIfInBounds_toArray, List.set_cons_zero, List.set_cons_succ]
                  refine wpAnyH_take (i := 12) (v := ?_) rfl (by kernel_rfl) (by kernel_rfl) (by kernel_rfl) (fun _ _ _ h => h) (Or.inl ⟨by rfl, ?_⟩) hS ?_
                  rotate_left
                  · intro w _; go_simp; try with_reducible rfl
                  simp only [List.getElem_toArray, List.getElem_cons_zero, List.getElem_cons_succ, Act.put, List.setIfInBounds_toArray, List.set_cons_zero, List.set_cons_succ]
                  refine wpAnyH_take (i := 13) (v := ?_) rfl (by kernel_rfl) (by kernel_rfl) (by kernel_rfl) (fun _ _ _ h => h) (Or.inl ⟨by rfl, ?_⟩) hS ?_
                  rotate_left
                  · intro w _; go_simp; try with_reducible rfl
                  simp only [List.getElem_toArray, List.getElem_cons_zero, List.getElem_cons_succ, Act.put, List.setIfInBounds_toArray, List.set_cons_zero, List.set_cons_succ]
                  refine wpAnyH_take (i := 14) (v := undef) rfl (by kernel_rfl) (by kernel_rfl) (by kernel_rfl) (fun _ _ _ h => h) (Or.inr ⟨by rfl, rfl⟩) hS ?_
                  simp only [List.getElem_toArray, List.getElem_cons_zero, List.getElem_cons_succ, Act.put, List.setIfInBounds_toArray, List.set_cons_zero, List.set_cons_succ]
                  refine wpAnyH_take (i := 15) (v := undef) rfl (by kernel_rfl) (by kernel_rfl) (by kernel_rfl) (fun _ _ _ h => h) (Or.inr ⟨by rfl, rfl⟩) hS ?_
                  simp only [List.getElem_toArray, List.getElem_cons_zero, List.getElem_cons_succ, Act.put, List.setIfInBounds_toArray, List.set_cons_zero, List.set_cons_succ]
                  refine wpAnyH_take (i := 16) (v := undef) rfl (by kernel_rfl) (by kernel_rfl) (by kernel_rfl) (fun _ _ _ h => h) (Or.inr ⟨by rfl, rfl⟩) hS ?_
                  simp only [List.getElem_toArray, List.getElem_cons_zero, List.getElem_cons_succ, Act.put, List.setIfInBounds_toArray, List.set_cons_zero, List.set_cons_succ]
                  refine wpAnyH_take (i := 17) (v := undef) rfl (by kernel_rfl) (by kernel_rfl) (by kernel_rfl) (fun _ _ _ h => h) (Or.inr ⟨by rfl, rfl⟩) hS ?_
                  simp only [List.getElem_toArray, List.getElem_cons_zero, List.getElem_cons_succ, Act.put, List.setIfInBounds_toArray, List.set_cons_zero, List.set_cons_succ]
                  refine wpAnyH_take (i := 18) (v := undef) rfl (by kernel_rfl) (by kernel_rfl) (by kernel_rfl) (fun _ _ _ h => h) (Or.inr ⟨by rfl, rfl⟩) hS ?_
                  simp only [List.getElem_toArray, List.getElem_cons_zero, List.getElem_cons_succ, Act.put, List.setIfInBounds_toArray, List.set_cons_zero, List.set_cons_succ]
                  refine wpAnyH_take (i := 19) (v := undef) rfl (by kernel_rfl) (by kernel_rfl) (by kernel_rfl) (fun _ _ _ h => h) (Or.inr ⟨by rfl, rfl⟩) hS ?_
                  simp only [List.getElem_toArray, List.getElem_cons_zero, List.getElem_cons_succ, Act.put, List.setIfInBounds_toArray, List.set_cons_zero, List.set_cons_succ]
                  refine wpAnyH_take (i := 20) (v := undef) rfl (by kernel_rfl) (by kernel_rfl) (by kernel_rfl) (fun _ _ _ h => h) (Or.inr ⟨by rfl, rfl⟩) hS ?_
                  simp only [List.getElem_toArray, List.getElem_cons_zero, List.getElem_cons_succ, Act.put, List.setIfInBounds_toArray, List.set_cons_zero, List.set_cons_succ]
                  refine wpAnyH_take (i := 21) (v := ?_) rfl (by kernel_rfl) (by kernel_rfl) (by kernel_rfl) (fun _ _ _ h => h) (Or.inl ⟨by rfl, ?_⟩) hS ?_
                  rotate_left
                  · intro w _; go_simp; try with_reducible rfl
                  simp only [List.getElem_toArray, List.getElem_cons_zero, List.getElem_cons_succ, Act.put, List.setIfInBounds_toArray, List.set_cons_zero, List.set_cons_succ]
                  refine wpAnyH_take (i := 22) (v := ?_) rfl (by kernel_rfl) (by kernel_rfl) (by kernel_rfl) (fun _ _ _ h => h) (Or.inl ⟨by rfl, ?_⟩) hS ?_
                  rotate_left
                  · intro w _; go_simp; try with_reducible rfl
                  simp only [List.getElem_toArray, List.getElem_cons_zero, List.getElem_cons_succ, Act.put, List.setIfInBounds_toArray, List.set_cons_zero, List.set_cons_succ]
                  refine wpAnyH_take (i := 23) (v := ?_) rfl (by kernel_rfl) (by kernel_rfl) (by kernel_rfl) (fun _ _ _ h => h) (Or.inl ⟨by rfl, ?_⟩) hS ?_
                  rotate_left
                  · intro w _; go_simp; try with_reducible rfl
                  simp only [List.getElem_toArray, List.getElem_cons_zero, List.getElem_cons_succ, Act.put, List.setIfInBounds_toArray, List.set_cons_zero, List.set_cons_succ]
                  refine wpAnyH_done (by kernel_rfl) ?_ _
                  clear hS
                  go_wp2_with fail
                  go_ret
                  exact ⟨by rw [fin.out, de, dm]; rfl, hB3⟩
                · have dm : decide (0 < m) = false := decide_eq_false hm0
                  have dm2 : decide (m > 0) = false := decide_eq_false hm0
                  refine wpAnyH_take (i := 11) (v := ?_) rfl (by kernel_rfl) (by kernel_rfl) (by kernel_rfl) (fun _ _ _ h => h) (Or.inl ⟨by rfl, ?_⟩) hS ?_
                  rotate_left
                  · intro w _; go_simp; try with_reducible rfl
                  simp only [List.getElem_toArray, List.getElem_cons_zero, List.getElem_cons_succ, Act.put, List.setIfInBounds_toArray, List.set_cons_zero, List.set_cons_succ]
                  refine wpAnyH_take (i := 12) (v := ?_) rfl (by kernel_rfl) (by kernel_rfl) (by kernel_rfl) (fun _ _ _ h => h) (Or.inl ⟨by rfl, ?_⟩) hS ?_
                  rotate_left
                  · intro w _; go_simp; try with_reducible rfl
                  simp only [List.getElem_toArray, List.getElem_cons_zero, List.getElem_cons_succ, Act.put, List.setIfInBounds_toArray, List.set_cons_zero, List.set_cons_succ]
                  refine wpAnyH_take (i := 13) (v := ?_) rfl (by kernel_rfl) (by kernel_rfl) (by kernel_rfl) (fun _ _ _ h => h) (Or.inl ⟨by rfl, ?_⟩) hS ?_
                  rotate_left
                  · intro w _; go_simp; try with_reducible rfl
                  simp only [List.getElem_toArray, List.getElem_cons_zero, List.getElem_cons_succ, Act.put, List.setIfInBounds_toArray, List.set_cons_zero, List.set_cons_succ]
                  refine wpAnyH_take (i := 14) (v := ?_) rfl (by kernel_rfl) (by kernel_rfl) (by kernel_rfl) (fun _ _ _ h => h) (Or.inl ⟨by rfl, ?_⟩) hS ?_
                  rotate_left
                  · intro w _; go_simp; try with_reducible rfl
                  simp only [List.getElem_toArray, List.getElem_cons_zero, List.getElem_cons_succ, Act.put, List.setIfInBounds_toArray, List.set_cons_zero, List.set_cons_succ]
                  refine wpAnyH_take (i := 15) (v := ?_) rfl (by kernel_rfl) (by kernel_rfl) (by kernel_rfl) (fun _ _ _ h => h) (Or.inl ⟨by rfl, ?_⟩) hS ?_
                  rotate_left
                  · intro w _; go_simp; try with_reducible rfl
                  simp only [List.getElem_toArray, List.getElem_cons_zero, List.getElem_cons_succ, Act.put, List.setIfInBounds_toArray, List.set_cons_zero, List.set_cons_succ]
                  refine wpAnyH_take (i := 16) (v := dval root) rfl (by kernel_rfl) (by kernel_rfl) (by kernel_rfl) (fun _ _ _ h => h) (yieldsIf_load_D (by rfl) 64 _ rfl b (off + 32) rfl root dr _ (fun W h => h.2) Tryd.underlying64 rfl sizeD) hS ?_
                  simp only [List.getElem_toArray, List.getElem_cons_zero, List.getElem_cons_succ, Act.put, List.setIfInBounds_toArray, List.set_cons_zero, List.set_cons_succ]
                  refine wpAnyH_take (i := 17) (v := ?_) rfl (by kernel_rfl) (by kernel_rfl) (by kernel_rfl) (fun _ _ _ h => h) (Or.inl ⟨by rfl, ?_⟩) hS ?_
                  rotate_left
                  · intro w _; go_simp; try with_reducible rfl
                  simp only [List.getElem_toArray, List.getElem_cons_zero, List.getElem_cons_succ, Act.put, List.setIfInBounds_toArray, List.set_cons_zero, List.set_cons_succ]
                  refine wpAnyH_take (i := 18) (v := ?_) rfl (by kernel_rfl) (by kernel_rfl) (by kernel_rfl) (fun _ _ _ h => h) (Or.inl ⟨by rfl, ?_⟩) hS ?_
                  rotate_left
                  · intro w _; go_simp; try with_reducible rfl
                  simp only [List.getElem_toArray, List.getElem_cons_zero, List.getElem_cons_succ, Act.put, List.setIfInBounds_toArray, List.set_cons_zero, List.set_cons_succ]
                  refine wpAnyH_take (i := 19) (v := dval old) rfl (by kernel_rfl) (by kernel_rfl) (by kernel_rfl) (fun _ _ _ h => h) (yieldsIf_load_D (by rfl) 64 _ rfl b (off) rfl old do_ _ (fun W h => h.1) Tryd.underlying64 rfl sizeD) hS ?_
                  simp only [List.getElem_toArray, List.getElem_cons_zero, List.getElem_cons_succ, Act.put, List.setIfInBounds_toArray, List.set_cons_zero, List.set_cons_succ]
                  obtain ⟨R, hR⟩ : ∃ R, R = decide (root = old) := ⟨_, rfl⟩
                  refine wpAnyH_take (i := 20) (v := .bool R) rfl (by kernel_rfl) (by kernel_rfl) (by kernel_rfl) (fun _ _ _ h => h) (yieldsIf_eq_D (by rfl) 64 _ _ _ rfl root old rfl rfl R (fun W_ => (eqD W_ _ _ dr do_).trans (by rw [← hR])) grdD) hS ?_
                  simp only [List.getElem_toArray, List.getElem_cons_zero, List.getElem_cons_succ, Act.put, List.setIfInBounds_toArray, List.set_cons_zero, List.set_cons_succ]
                  have HRR := Lib.hid hR
                  clear hR
                  refine wpAnyH_take (i := 21) (v := ?_) rfl (by kernel_rfl) (by kernel_rfl) (by kernel_rfl) (fun _ _ _ h => h) (Or.inl ⟨by rfl, ?_⟩) hS ?_
                  rotate_left
                  · intro w _; go_simp; try with_reducible rfl
                  simp only [List.getElem_toArray, List.getElem_cons_zero, List.getElem_cons_succ, Act.put, List.setIfInBounds_toArray, List.set_cons_zero, List.set_cons_succ]
                  refine wpAnyH_take (i := 22) (v := ?_) rfl (by kernel_rfl) (by kernel_rfl) (by kernel_rfl) (fun _ _ _ h => h) (Or.inl ⟨by rfl, ?_⟩) hS ?_
                  rotate_left
                  · intro w _; go_simp; try with_reducible rfl
                  simp only [List.getElem_toArray, List.getElem_cons_zero, List.getElem_cons_succ, Act.put, List.setIfInBounds_toArray, List.set_cons_zero, List.set_cons_succ]
                  refine wpAnyH_take (i := 23) (v := ?_) rfl (by kernel_rfl) (by kernel_rfl) (by kernel_rfl) (fun _ _ _ h => h) (Or.inl ⟨by rfl, ?_⟩) hS ?_
                  rotate_left
                  · intro w _; go_simp; try with_reducible rfl
                  simp only [List.getElem_toArray, List.getElem_cons_zero, List.getElem_cons_succ, Act.put, List.setIfInBounds_toArray, List.set_cons_zero, List.set_cons_succ]
                  refine wpAnyH_done (by kernel_rfl) ?_ _
                  clear hS
                  go_wp2_with fail
                  go_ret
                  exact ⟨by rw [fin.out, de, dm, HRR.out]; rfl, hB3⟩
              · have de : decide (old = shaD []) = false := decide_eq_false he
                clear he
                refine wpAnyH_take (i := 8) (v := .bool false) rfl (by kernel_rfl) (by kernel_rfl) (by kernel_rfl) (fun _ _ _ h => h) (yieldsIf_eq_D (by rfl) 64 _ _ _ rfl old (shaD []) rfl rfl false (fun W_ => (eqD W_ _ _ do_ (shaD_dig _)).trans (by rw [de])) grdD) hS ?_
                simp only [List.getElem_toArray, List.getElem_cons_zero, List.getElem_cons_succ, Act.put, List.setIfInBounds_toArray, List.set_cons_zero, List.set_cons_succ]
                refine wpAnyH_take (i := 9) (v := ?_) rfl (by kernel_rfl) (by kernel_rfl) (by kernel_rfl) (fun _ _ _ h => h) (Or.inl ⟨by rfl, ?_⟩) hS ?_
                rotate_left
                · intro w _; go_simp; try with_reducible rfl
                simp only [List.getElem_toArray, List.getElem_cons_zero, List.getElem_cons_succ, Act.put, List.setIfInBounds_toArray, List.set_cons_zero, List.set_cons_succ]
                refine wpAnyH_take (i := 10) (v := ?_) rfl (by kernel_rfl) (by kernel_rfl) (by kernel_rfl) (fun _ _ _ h => h) (Or.inl ⟨by rfl, ?_⟩) hS ?_
                rotate_left
                · intro w _; go_simp; try with_reducible rfl
                simp only [List.getElem_toArray, List.getElem_cons_zero, List.getElem_cons_succ, Act.put, List.setIfInBounds_toArray, List.set_cons_zero, List.set_cons_succ]
                refine wpAnyH_take (i := 11) (v := undef) rfl (by kernel_rfl) (by kernel_rfl) (by kernel_rfl) (fun _ _ _ h => h) (Or.inr ⟨by rfl, rfl⟩) hS ?_
                simp only [List.getElem_toArray, List.getElem_cons_zero, List.getElem_cons_succ, Act.put, List.setIfInBounds_toArray, List.set_cons_zero, List.set_cons_succ]
                refine wpAnyH_take (i := 12) (v := undef) rfl (by kernel_rfl) (by kernel_rfl) (by kernel_rfl) (fun _ _ _ h => h) (Or.inr ⟨by rfl, rfl⟩) hS ?_
                simp only [List.getElem_toArray, List.getElem_cons_zero, List.getElem_cons_succ, Act.put, List.setIfInBounds_toArray, List.set_cons_zero, List.set_cons_succ]
                refine wpAnyH_take (i := 13) (v := undef) rfl (by kernel_rfl) (by kernel_rfl) (by kernel_rfl) (fun _ _ _ h => h) (Or.inr ⟨by rfl, rfl⟩) hS ?_
                simp only [List.getElem_toArray, List.getElem_cons_zero, List.getElem_cons_succ, Act.put, List.setIfInBounds_toArray, List.set_cons_zero, List.set_cons_succ]
                refine wpAnyH_take (i := 14) (v := undef) rfl (by kernel_rfl) (by kernel_rfl) (by kernel_rfl) (fun _ _ _ h => h) (Or.inr ⟨by rfl, rfl⟩) hS ?_
                simp only [List.getElem_toArray, List.getElem_cons_zero, List.getElem_cons_succ, Act.put, List.setIfInBounds_toArray, List.set_cons_zero, List.set_cons_succ]
                refine wpAnyH_take (i := 15) (v := undef) rfl (by kernel_rfl) (by kernel_rfl) (by kernel_rfl) (fun _ _ _ h => h) (Or.inr ⟨by rfl, rfl⟩) hS ?_
                simp only [List.getElem_toArray, List.getElem_cons_zero, List.getElem_cons_succ, Act.put, List.setIfInBounds_toArray, List.set_cons_zero, List.set_cons_succ]
                refine wpAnyH_take (i := 16) (v := undef) rfl (by kernel_rfl) (by kernel_rfl) (by kernel_rfl) (fun _ _ _ h => h) (Or.inr ⟨by rfl, rfl⟩) hS ?_
                simp only [List.getElem_toArray, List.getElem_cons_zero, List.getElem_cons_succ, Act.put, List.setIfInBounds_toArray, List.set_cons_zero, List.set_cons_succ]
                refine wpAnyH_take (i := 17) (v := undef) rfl (by kernel_rfl) (by kernel_rfl) (by kernel_rfl) (fun _ _ _ h => h) (Or.inr ⟨by rfl, rfl⟩) hS ?_
                simp only [List.getElem_toArray, List.getElem_cons_zero, List.getElem_cons_succ, Act.put, List.setIfInBounds_toArray, List.set_cons_zero, List.set_cons_succ]
                refine wpAnyH_take (i := 18) (v := undef) rfl (by kernel_rfl) (by kernel_rfl) (by kernel_rfl) (fun _ _ _ h => h) (Or.inr ⟨by rfl, rfl⟩) hS ?_
                simp only [List.getElem_toArray, List.getElem_cons_zero, List.getElem_cons_succ, Act.put, List.setIfInBounds_toArray, List.set_cons_zero, List.set_cons_succ]
                refine wpAnyH_take (i := 19) (v := undef) rfl (by kernel_rfl) (by kernel_rfl) (by kernel_rfl) (fun _ _ _ h => h) (Or.inr ⟨by rfl, rfl⟩) hS ?_
                simp only [List.getElem_toArray, List.getElem_cons_zero, List.getElem_cons_succ, Act.put, List.setIfInBounds_toArray, List.set_cons_zero, List.set_cons_succ]
                refine wpAnyH_take (i := 20) (v := undef) rfl (by kernel_rfl) (by kernel_rfl) (by kernel_rfl) (fun _ _ _ h => h) (Or.inr ⟨by rfl, rfl⟩) hS ?_
                simp only [List.getElem_toArray, List.getElem_cons_zero, List.getElem_cons_succ, Act.put, List.setIfInBounds_toArray, List.set_cons_zero, List.set_cons_succ]
                refine wpAnyH_take (i := 21) (v := undef) rfl (by kernel_rfl) (by kernel_rfl) (by kernel_rfl) (fun _ _ _ h => h) (Or.inr ⟨by rfl, rfl⟩) hS ?_
                simp only [List.getElem_toArray, List.getElem_cons_zero, List.getElem_cons_succ, Act.put, List.setIfInBounds_toArray, List.set_cons_zero, List.set_cons_succ]
                refine wpAnyH_take (i := 22) (v := ?_) rfl (by kernel_rfl) (by kernel_rfl) (by kernel_rfl) (fun _ _ _ h => h) (Or.inl ⟨by rfl, ?_⟩) hS ?_
                rotate_left
                · intro w _; go_simp; try with_reducible rfl
                simp only [List.getElem_toArray, List.getElem_cons_zero, List.getElem_cons_succ, Act.put, List.setIfInBounds_toArray, List.set_cons_zero, List.set_cons_succ]
                refine wpAnyH_take (i := 23) (v := ?_) rfl (by kernel_rfl) (by kernel_rfl) (by kernel_rfl) (fun _ _ _ h => h) (Or.inl ⟨by rfl, ?_⟩) hS ?_
                rotate_left
                · intro w _; go_simp; try with_reducible rfl
                simp only [List.getElem_toArray, List.getElem_cons_zero, List.getElem_cons_succ, Act.put, List.setIfInBounds_toArray, List.set_cons_zero, List.set_cons_succ]
                refine wpAnyH_done (by kernel_rfl) ?_ _
                clear hS
                go_wp2_with fail
                go_ret
                exact ⟨by rw [fin.out, de]; rfl, hB3⟩
          · obtain ⟨N, rfl⟩ : ∃ N : Nat, n = (N : Int) := ⟨n.toNat, by omega⟩
            obtain ⟨M, rfl⟩ : ∃ M : Nat, m = (M : Int) := ⟨m.toNat, by omega⟩
            have g8 : decide (M < N) = false := decide_eq_false (by omega)
            have g9 : ¬ M < N := by omega
            go_enter Tryd.func24, Tryd.ntmps24
            go_wp2_with fail
            refine c1.mono ?_; rintro e_ w1 ⟨v, rfl, hv, hb⟩
            have hB := al.trans (hb.mono al.size)
            have c3 := c2 _ hB
            clear c1 c2
            go_wp2_with fail
            refine c3.mono ?_; rintro e_ w2 ⟨v2, rfl, hv2, hb2⟩
            have hB2 := hB.trans (hb2.mono hB.size)
            clear c3

            replace hv := (hv h1).keep hb2
            replace hv2 := hv2 h2
            obtain ⟨ae, ce, rfl, se⟩ := hv.sl
            obtain ⟨ap, cp, rfl, sp⟩ := hv2.sl
            have do_ : Dig old := ⟨h1.1, uo⟩
            have dr : Dig root := ⟨h1.2, ur⟩
            obtain ⟨b, off, rfl, r1⟩ := se.range (i := 1) (by simp)
            obtain ⟨b', off', eb, r0⟩ := se.range (i := 0) (by simp)
            cases eb
            simp only [List.getElem_cons_succ, List.getElem_cons_zero, Nat.one_mul, Nat.zero_mul, Nat.add_zero] at r0 r1
            obtain ⟨Q, hQ⟩ : ∃ Q, Q = ps.map (·.xs) := ⟨_, rfl⟩
            rw [← hQ] at sp ⊢
            obtain ⟨y, hy⟩ : ∃ z, z = Q.length := ⟨_, rfl⟩
            have HY := Lib.hid hy
            have HQ := Lib.hid hQ
            have l2 : ([old, root] : List (List Int)).length = 2 := rfl
            rw [l2]
            clear l2 hb hb2 hB h2 hv hv2 se

            have fin : Hid (∀ (x y : List Int) (ok : Bool), bothH pairD 63 M N true old Q = (if ok = true then some (x, y) else none) → decide (growP old (N : Int) root (M : Int) (ps.map (·.xs))) = (ok && decide (x = old) && decide (y = root))) := Lib.hid (fun x y ok h => by
              have e : growP old (N : Int) root (M : Int) Q ↔ bothH pairD 63 M N true old Q = some (old, root) := by
                unfold growP
                rw [if_neg (by omega), Int.toNat_natCast, Int.toNat_natCast]
                refine ⟨fun h => h.2.2.2.2, fun h => ⟨h1, ?_, by omega, by omega, h⟩⟩
                rw [HQ.out]
                exact e2.out.1 (of_decide_eq_true HB2.out.symm)
              rw [show ps.map (·.xs) = Q from HQ.out.symm]
              exact Bool.eq_iff_iff.2 (by
                simp only [decide_eq_true_eq, Bool.and_eq_true]
                rw [e, h]
                cases ok <;> simp))
            have cl := both_c M M (Nat.le_refl _) 63 N true old ap cp Q w2 (by omega) (by omega) (by omega) (by omega) do_ sp (ht.below hB2)
            rw [← hy] at cl ⊢
            have nz : ((N : Int) == 0) = false := by simp; omega
            clear hQ hy sp
            go_wp2_with (refine wpList_load_D rfl 64 _ rfl b (off) rfl old do_ _ r0 Tryd.underlying64 rfl sizeD ?_)
            refine cl.mono ?_; rintro e_ w3 ⟨x, x2, ok, rfl, dx, dx2, er, hb3⟩
            have ER := Lib.hid (fin.out x x2 ok er)
            have r03 := World.rangeAt.keep r0 do_ hb3
            have r13 := World.rangeAt.keep r1 dr hb3
            have V3 : Vars 64 w w3 [] := ⟨fun _ h => (by cases h), by simp, fun _ h => (by cases h), hB2.trans (hb3.mono hB2.size)⟩
            clear cl er fin r0 r1 hB2 hb3
            have bl : Hid (b < w3.heap.size) := Lib.hid (World.block_lt_of_cell? _ _ (r03 0 (.int .u8 (nth old 0)) (by rw [List.getElem?_map, List.getElem?_eq_getElem (by rw [do_.1]; omega), nth_get _ _ (by rw [do_.1]; omega)]; rfl)))
            go_wp2_with (with_reducible refine wpList_alloc_rw rfl 64 rfl (noDig.map (Value.int .u8)) _ zeroD ?_)
            intro w4 hk_ hs_ hb_
            have V4 := Vars.add V3 hk_ hb_ dig_no
            have r04 := World.rangeAt.keep r03 do_ hb_
            have r14 := World.rangeAt.keep r13 dr hb_
            have bl4 : Hid (b < w4.heap.size) := Lib.hid (Nat.lt_of_lt_of_le bl.out hb_.size)
            obtain ⟨g4, hg_⟩ : ∃ g, g = w3.heap.size := ⟨_, rfl⟩
            have n4 : Hid (b ≠ g4) := Lib.hid (by rw [hg_]; exact Nat.ne_of_lt bl.out)
            rw [← hg_] at V4 ⊢
            simp only [List.nil_append, List.cons_append] at V4
            clear hk_ hs_ hb_ hg_ r03 r13
            go_wp2_with (with_reducible refine wpList_alloc_rw rfl 64 rfl (noDig.map (Value.int .u8)) _ zeroD ?_)
            intro w5 hk_ hs_ hb_
            have V5 := Vars.add V4 hk_ hb_ dig_no
            have r05 := World.rangeAt.keep r04 do_ hb_
            have r15 := World.rangeAt.keep r14 dr hb_
            obtain ⟨g5, hg_⟩ : ∃ g, g = w4.heap.size := ⟨_, rfl⟩
            have n54 : b ≠ g4 ∧ b ≠ g5 := ⟨n4.out, by rw [hg_]; exact Nat.ne_of_lt bl4.out⟩
            rw [← hg_] at V5 ⊢
            simp only [List.nil_append, List.cons_append] at V5
            clear hk_ hs_ hb_ hg_ r04 r14
            clear V3 V4
            go_wp2_with (refine wpList_store_V rfl 64 _ _ rfl g4 64 noDig x rfl rfl (Vars.at_ V5 (i := 0) rfl) (Vars.dig V5 (i := 0) rfl) dx sizeD ?_)
            intro w6 hk_ hg_ hs_
            have r06 := World.rangeAt.grown r05 do_ hg_ (fun e => n54.1 (Option.some.inj e))
            have r16 := World.rangeAt.grown r15 dr hg_ (fun e => n54.1 (Option.some.inj e))
            have V6 := Vars.set V5 0 (g := g4) rfl hk_ hg_ dx
            simp only [List.set_cons_zero, List.set_cons_succ] at V6
            clear hk_ hg_ hs_ V5 r05 r15
            go_wp2_with (refine wpList_store_V rfl 64 _ _ rfl g5 64 noDig x2 rfl rfl (Vars.at_ V6 (i := 1) rfl) (Vars.dig V6 (i := 1) rfl) dx2 sizeD ?_)
            intro w7 hk_ hg_ hs_
            have r07 := World.rangeAt.grown r06 do_ hg_ (fun e => n54.2 (Option.some.inj e))
            have r17 := World.rangeAt.grown r16 dr hg_ (fun e => n54.2 (Option.some.inj e))
            have V7 := Vars.set V6 1 (g := g5) rfl hk_ hg_ dx2
            simp only [List.set_cons_zero, List.set_cons_succ] at V7
            clear hk_ hg_ hs_ V6 r06 r16
            go_wp2_with fail
            refine wp_region_still_lit (by kernel_rfl) (by kernel_rfl) ?_
            change wpStill _ _ (World.drew _) _ _ _
            cases ok with
            | false =>
              repeat still_step
              refine wpStill_nil ?_
              go_wp2_with fail
              go_ret
              exact ⟨by rw [ER.out]; rfl, (V7.drew 1).below⟩
            | true =>
              still_step
              still_step
              (refine wpStill_load_V (by rfl) 64 _ rfl g4 64 x rfl (Vars.at_ V7 (i := 0) rfl) (Vars.dig V7 (i := 0) rfl) _ Tryd.underlying64 rfl sizeD ?_)
              still_step
              still_step
              (refine wpStill_load_D (by rfl) 64 _ rfl b (off) rfl old do_ _ r07 Tryd.underlying64 rfl sizeD ?_)
              by_cases hx : x = old
              · have ex : decide (x = old) = true := decide_eq_true hx
                clear hx
                (refine wpStill_eq_D (by rfl) 64 _ _ _ rfl x old rfl rfl true ((eqD _ _ _ dx do_).trans (by rw [ex])) grdD ?_)
                still_step
                still_step
                (refine wpStill_load_V (by rfl) 64 _ rfl g5 64 x2 rfl (Vars.at_ V7 (i := 1) rfl) (Vars.dig V7 (i := 1) rfl) _ Tryd.underlying64 rfl sizeD ?_)
                still_step
                still_step
                (refine wpStill_load_D (by rfl) 64 _ rfl b (off + 32) rfl root dr _ r17 Tryd.underlying64 rfl sizeD ?_)
                (refine wpStill_eq_D (by rfl) 64 _ _ _ rfl x2 root rfl rfl (decide (x2 = root)) (eqD _ _ _ dx2 dr) grdD ?_)
                repeat still_step
                refine wpStill_nil ?_
                go_wp2_with fail
                go_ret
                exact ⟨by rw [ER.out, ex]; rfl, (V7.drew 1).below⟩
              · have ex : decide (x = old) = false := decide_eq_false hx
                clear hx
                (refine wpStill_eq_D (by rfl) 64 _ _ _ rfl x old rfl rfl false ((eqD _ _ _ dx do_).trans (by rw [ex])) grdD ?_)
                repeat still_step
                refine wpStill_nil ?_
                go_wp2_with fail
                go_ret
                exact ⟨by rw [ER.out, ex]; rfl, (V7.drew 1).below⟩
        · have g4 : decide (m < n) = true := decide_eq_true (by omega)
          have g5 : decide (n > m) = true := decide_eq_true (by omega)
          have g3 : decide (n < 0) = false := decide_eq_false (by omega)
          have g6 : m < n := by omega
          have e : Hid (decide (growP old n root m (ps.map (·.xs))) = false) := Lib.hid (decide_eq_false fun h => h4 h.2.2.2.1)

          go_enter Tryd.func24, Tryd.ntmps24
          go_wp2_with fail
          refine c1.mono ?_; rintro e_ w1 ⟨v, rfl, hv, hb⟩
          have hB := al.trans (hb.mono al.size)
          have c3 := c2 _ hB
          clear c1 c2
          go_wp2_with fail
          refine c3.mono ?_; rintro e_ w2 ⟨v2, rfl, hv2, hb2⟩
          have hB2 := hB.trans (hb2.mono hB.size)
          clear c3

          go_wp2_with fail
          go_ret
          exact ⟨by rw [e.out]; rfl, hB2⟩
      · have g3 : decide (n < 0) = true := decide_eq_true (by omega)
        have g5 : n < 0 := by omega
        have e : Hid (decide (growP old n root m (ps.map (·.xs))) = false) := Lib.hid (decide_eq_false fun h => h3 h.2.2.1)

        go_enter Tryd.func24, Tryd.ntmps24
        go_wp2_with fail
        refine c1.mono ?_; rintro e_ w1 ⟨v, rfl, hv, hb⟩
        have hB := al.trans (hb.mono al.size)
        have c3 := c2 _ hB
        clear c1 c2
        go_wp2_with fail
        refine c3.mono ?_; rintro e_ w2 ⟨v2, rfl, hv2, hb2⟩
        have hB2 := hB.trans (hb2.mono hB.size)
        clear c3

        go_wp2_with fail
        go_ret
        exact ⟨by rw [e.out]; rfl, hB2⟩
  · simp only [decide_eq_false h1] at c1
    have e : Hid (decide (growP old n root m (ps.map (·.xs))) = false) := Lib.hid (decide_eq_false fun h => h1 h.1)

    go_enter Tryd.func24, Tryd.ntmps24
    go_wp2_with fail
    refine c1.mono ?_; rintro e_ w1 ⟨v, rfl, hv, hb⟩
    have hB := al.trans (hb.mono al.size)
    have c3 := c2 _ hB
    clear c1 c2
    go_wp2_with fail
    refine c3.mono ?_; rintro e_ w2 ⟨v2, rfl, hv2, hb2⟩
    have hB2 := hB.trans (hb2.mono hB.size)
    clear c3

    go_wp2_with fail
    go_ret
    exact ⟨by rw [e.out]; rfl, hB2⟩
end Go.Proofs.YtmbifokiebjmmaaDoor
