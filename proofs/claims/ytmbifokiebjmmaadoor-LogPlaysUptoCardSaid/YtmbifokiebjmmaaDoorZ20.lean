import Derived.Test.YtmbifokiebjmmaaDoorZ19
import Derived.Test.YtmbifokiebjmmaaDoorZ16
import Derived.Test.YtmbifokiebjmmaaDoorZ14
/- package log: Grown by its contract. (Printed by gen_logy.py.) -/
set_option linter.unusedVariables false
set_option linter.unusedSimpArgs false
namespace Go.Proofs.YtmbifokiebjmmaaDoor
open Go.RowKit Go.Sg
set_option maxHeartbeats 16000000 in
set_option maxRecDepth 20000 in
theorem Grown_c (a a' A : Option Addr) (cap cap' cap2 : Nat) (old root : List Int) (ps : List Part) (n m : Int) (w : World) (so : Sl .u8 w a cap old) (uo : U8 old) (sr : Sl .u8 w a' cap' root) (ur : U8 root) (hr : Rows_ w A ps) (hn : ps.length ≤ 4294967296)
    (bm : m ≤ 9223372036854775807) (ht : ShaTabs w) :
    Calls Tryd.prog 24 #[.slice a old.length cap, .int .i64 n, .slice a' root.length cap', .int .i64 m, .slice A ps.length cap2] w (TellPost (decide (growP old n root m (ps.map (·.xs)))) w) := by
  obtain ⟨r, hr'⟩ : ∃ r, r = old.length := ⟨_, rfl⟩
  obtain ⟨l, hl'⟩ : ∃ l, l = root.length := ⟨_, rfl⟩
  obtain ⟨z, hz'⟩ : ∃ m, m = ps.length := ⟨_, rfl⟩
  have HR := Lib.hid hr'
  have HL := Lib.hid hl'
  have HM := Lib.hid hz'
  have al := (Below.refl w.heap.size w).alloc (Nat.le_refl _) (.cells #[.slice a r cap, .slice a' l cap'] 25)
  have c1 := in_c (some ⟨w.heap.size, 0, none⟩) 2 [⟨a, cap, old⟩, ⟨a', cap', root⟩] (w.alloc (.cells #[.slice a r cap, .slice a' l cap'] 25)) (rows_new w 25 [⟨a, cap, old⟩, ⟨a', cap', root⟩] _ (by rw [hr', hl']; rfl) (by
    intro p hp
    simp only [List.mem_cons, List.not_mem_nil, or_false] at hp
    rcases hp with rfl | rfl
    · exact so
    · exact sr) (by
    intro p hp
    simp only [List.mem_cons, List.not_mem_nil, or_false] at hp
    rcases hp with rfl | rfl
    · exact uo
    · exact ur)) (by simp)
  unfold InPost at c1
  have e1 : Hid ((∀ p ∈ [(⟨a, cap, old⟩ : Part), ⟨a', cap', root⟩], p.xs.length = 32) ↔ (old.length = 32 ∧ root.length = 32)) := Lib.hid (by simp)
  have c2 := fun W (k : Below w.heap.size w W) => in_c A cap2 ps W (hr.below k) hn
  unfold InPost at c2
  have e2 : Hid ((∀ p ∈ ps, p.xs.length = 32) ↔ (∀ x ∈ ps.map (·.xs), x.length = 32)) := Lib.hid (by simp)
  rw [← hr', ← hl', ← hz']
  rw [← hz'] at c2
  simp only [e1.out, List.map_cons, List.map_nil, List.length_cons, List.length_nil, Nat.zero_add, Nat.reduceAdd] at c1
  obtain ⟨B2, hB2'⟩ : ∃ b, b = decide (∀ p ∈ ps, p.xs.length = 32) := ⟨_, rfl⟩
  have HB2 := Lib.hid hB2'
  simp only [← hB2'] at c2
  clear hr' hl' hz' hr hn so sr hB2'
  by_cases h1 : old.length = 32 ∧ root.length = 32
  · simp only [decide_eq_true h1] at c1
    cases B2 with
    | false =>
      have e : Hid (decide (growP old n root m (ps.map (·.xs))) = false) := Lib.hid (decide_eq_false fun h => of_decide_eq_false HB2.out.symm (e2.out.2 h.2.1))

      go_enter Tryd.func24, Tryd.ntmps24
      go_wp2_with fail
      refine c1.mono ?_; rintro e_ w1 ⟨v, rfl, hv, hb⟩
      have hB := al.trans (hb.mono al.size)
      have c3 := c2 _ hB
      clear c1 c2
      go_wp2_with fail
      refine c3.mono ?_; rintro e_ w2 ⟨v2, rfl, hv2, hb2⟩
      have hB2 := hB.trans (hb2.mono hB.size)
      clear c3

      go_wp2_with fail
      go_ret
      exact ⟨by rw [e.out]; rfl, hB2⟩
    | true =>
      by_cases h3 : 0 ≤ n
      · by_cases h4 : n ≤ m
        · have h2 := of_decide_eq_true HB2.out.symm
          have g3 : decide (n < 0) = false := decide_eq_false (by omega)
          have g4 : decide (m < n) = false := decide_eq_false (by omega)
          have g5 : decide (n > m) = false := decide_eq_false (by omega)
          have g6 : ¬ n < 0 := by omega
          have g7 : ¬ m < n := by omega
          by_cases h0 : n = 0
          · subst h0
            go_enter Tryd.func24, Tryd.ntmps24
            go_wp2_with fail
            refine c1.mono ?_; rintro e_ w1 ⟨v, rfl, hv, hb⟩
            have hB := al.trans (hb.mono al.size)
            have c3 := c2 _ hB
            clear c1 c2
            go_wp2_with fail
            refine c3.mono ?_; rintro e_ w2 ⟨v2, rfl, hv2, hb2⟩
            have hB2 := hB.trans (hb2.mono hB.size)
            clear c3

            replace hv := (hv h1).keep hb2
            replace hv2 := hv2 h2
            obtain ⟨ae, ce, rfl, se⟩ := hv.sl
            obtain ⟨ap, cp, rfl, sp⟩ := hv2.sl
            have do_ : Dig old := ⟨h1.1, uo⟩
            have dr : Dig root := ⟨h1.2, ur⟩
            obtain ⟨b, off, rfl, r1⟩ := se.range (i := 1) (by simp)
            obtain ⟨b', off', eb, r0⟩ := se.range (i := 0) (by simp)
            cases eb
            simp only [List.getElem_cons_succ, List.getElem_cons_zero, Nat.one_mul, Nat.zero_mul, Nat.add_zero] at r0 r1
            obtain ⟨Q, hQ⟩ : ∃ Q, Q = ps.map (·.xs) := ⟨_, rfl⟩
            rw [← hQ] at sp ⊢
            obtain ⟨y, hy⟩ : ∃ z, z = Q.length := ⟨_, rfl⟩
            have HY := Lib.hid hy
            have HQ := Lib.hid hQ
            have l2 : ([old, root] : List (List Int)).length = 2 := rfl
            rw [l2]
            clear l2 hb hb2 hB h2 hv hv2 se

            have fin : Hid (decide (growP old 0 root m (ps.map (·.xs))) = (decide (Q = []) && decide (old = shaD []) && (decide (0 < m) || decide (root = old)))) := Lib.hid (by
              have e : growP old 0 root m Q ↔ (Q = [] ∧ old = shaD [] ∧ (0 < m ∨ root = old)) := by
                unfold growP
                rw [if_pos rfl]
                refine ⟨fun h => h.2.2.2.2, fun h => ⟨h1, ?_, by omega, h4, h⟩⟩
                rw [HQ.out]
                exact e2.out.1 (of_decide_eq_true HB2.out.symm)
              rw [show ps.map (·.xs) = Q from HQ.out.symm]
              exact Bool.eq_iff_iff.2 (by
                simp only [decide_eq_true_eq, Bool.and_eq_true, Bool.or_eq_true]
                rw [e]
                exact ⟨fun h => ⟨⟨h.1, h.2.1⟩, h.2.2⟩, fun h => ⟨h.1.1, h.1.2, h.2⟩⟩))
            rw [← hy]
            clear hQ
            by_cases hy0 : 0 < y
            · have y1 : ((y : Int) == 0) = false := by simp; omega
              have y2 : decide (Q = []) = false := decide_eq_false (fun h => by subst h; simp at hy; omega)
              clear hy
              go_wp2_with fail
              refine wp_region_held_drew (S := fun W => W.rangeAt b off (old.map (Value.int .u8)) ∧ W.rangeAt b (off + 32) (root.map (Value.int .u8))) (by kernel_rfl) (⟨r0, r1⟩) (fun hS => ?_)
              refine wpAnyH_take (i := 0) (v := ?_) rfl (by kernel_rfl) (by kernel_rfl) (by kernel_rfl) (fun _ _ _ h => h) (Or.inl ⟨by rfl, ?_⟩) hS ?_
              rotate_left
              · intro w _; go_simp; try with_reducible rfl
              simp only [List.getElem_toArray, List.getElem_cons_zero, List.getElem_cons_succ, Act.put, List.setIfInBounds_toArray, List.set_cons_zero, List.set_cons_succ]
              refine wpAnyH_take (i := 1) (v := ?_) rfl (by kernel_rfl) (by kernel_rfl) (by kernel_rfl) (fun _ _ _ h => h) (Or.inl ⟨by rfl, ?_⟩) hS ?_
              rotate_left
              · intro w _; go_simp; try with_reducible rfl
              simp only [List.getElem_toArray, List.getElem_cons_zero, List.getElem_cons_succ, Act.put, List.setIfInBounds_toArray, List.set_cons_zero, List.set_cons_succ]
              refine wpAnyH_take (i := 2) (v := ?_) rfl (by kernel_rfl) (by kernel_rfl) (by kernel_rfl) (fun _ _ _ h => h) (Or.inl ⟨by rfl, ?_⟩) hS ?_
              rotate_left
              · intro w _; go_simp; try with_reducible rfl
              simp only [List.getElem_toArray, List.getElem_cons_zero, List.getElem_cons_succ, Act.put, List.setIfInBounds_toArray, List.set_cons_zero, List.set_cons_succ]
              refine wpAnyH_take (i := 3) (v := ?_) rfl (by kernel_rfl) (by kernel_rfl) (by kernel_rfl) (fun _ _ _ h => h) (Or.inl ⟨by rfl, ?_⟩) hS ?_
              rotate_left
              · intro w _; go_simp; try with_reducible rfl
              simp only [List.getElem_toArray, List.getElem_cons_zero, List.getElem_cons_succ, Act.put, List.setIfInBounds_toArray, List.set_cons_zero, List.set_cons_succ]
              refine wpAnyH_take (i := 4) (v := undef) rfl (by kernel_rfl) (by kernel_rfl) (by kernel_rfl) (fun _ _ _ h => h) (Or.inr ⟨by rfl, rfl⟩) hS ?_
              simp only [List.getElem_toArray, List.getElem_cons_zero, List.getElem_cons_succ, Act.put, List.setIfInBounds_toArray, List.set_cons_zero, List.set_cons_succ]
              refine wpAnyH_take (i := 5) (v := undef) rfl (by kernel_rfl) (by kernel_rfl) (by kernel_rfl) (fun _ _ _ h => h) (Or.inr ⟨by rfl, rfl⟩) hS ?_
              simp only [List.getElem_toArray, List.getElem_cons_zero, List.getElem_cons_succ, Act.put, List.setIfInBounds_toArray, List.set_cons_zero, List.set_cons_succ]
              refine wpAnyH_take (i := 6) (v := undef) rfl (by kernel_rfl) (by kernel_rfl) (by kernel_rfl) (fun _ _ _ h => h) (Or.inr ⟨by rfl, rfl⟩) hS ?_
              simp only [List.getElem_toArray, List.getElem_cons_zero, List.getElem_cons_succ, Act.put, List.setIfInBounds_toArray, List.set_cons_zero, List.set_cons_succ]
              refine wpAnyH_take (i := 7) (v := undef) rfl (by kernel_rfl) (by kernel_rfl) (by kernel_rfl) (fun _ _ _ h => h) (Or.inr ⟨by rfl, rfl⟩) hS ?_
              simp only [List.getElem_toArray, List.getElem_cons_zero, List.getElem_cons_succ, Act.put, List.setIfInBounds_toArray, List.set_cons_zero, List.set_cons_succ]
              refine wpAnyH_take (i := 8) (v := undef) rfl (by kernel_rfl) (by kernel_rfl) (by kernel_rfl) (fun _ _ _ h => h) (Or.inr ⟨by rfl, rfl⟩) hS ?_
              simp only [List.getElem_toArray, List.getElem_cons_zero, List.getElem_cons_succ, Act.put, List.setIfInBounds_toArray, List.set_cons_zero, List.set_cons_succ]
              refine wpAnyH_take (i := 9) (v := ?_) rfl (by kernel_rfl) (by kernel_rfl) (by kernel_rfl) (fun _ _ _ h => h) (Or.inl ⟨by rfl, ?_⟩) hS ?_
              rotate_left
              · intro w _; go_simp; try with_reducible rfl
              simp only [List.getElem_toArray, List.getElem_cons_zero, List.getElem_cons_succ, Act.put, List.setIfInBounds_toArray, List.set_cons_zero, List.set_cons_succ]
              refine wpAnyH_take (i := 10) (v := ?_) rfl (by kernel_rfl) (by kernel_rfl) (by kernel_rfl) (fun _ _ _ h => h) (Or.inl ⟨by rfl, ?_⟩) hS ?_
              rotate_left
              · intro w _; go_simp; try with_reducible rfl
              simp only [List.getElem_toArray, List.getElem_cons_zero, List.getElem_cons_succ, Act.put, List.setIfInBounds_toArray, List.set_cons_zero, List.set_cons_succ]
              refine wpAnyH_take (i := 11) (v := undef) rfl (by kernel_rfl) (by kernel_rfl) (by kernel_rfl) (fun _ _ _ h => h) (Or.inr ⟨by rfl, rfl⟩) hS ?_
              simp only [List.getElem_toArray, List.getElem_cons_zero, List.getElem_cons_succ, Act.put, List.setIfInBounds_toArray, List.set_cons_zero, List.set_cons_succ]
              refine wpAnyH_take (i := 12) (v := undef) rfl (by kernel_rfl) (by kernel_rfl) (by kernel_rfl) (fun _ _ _ h => h) (Or.inr ⟨by rfl, rfl⟩) hS ?_
              simp only [List.getElem_toArray, List.getElem_cons_zero, List.getElem_cons_succ, Act.put, List.setIfInBounds_toArray, List.set_cons_zero, List.set_cons_succ]
              refine wpAnyH_take (i := 13) (v := undef) rfl (by kernel_rfl) (by kernel_rfl) (by kernel_rfl) (fun _ _ _ h => h) (Or.inr ⟨by rfl, rfl⟩) hS ?_
              simp only [List.getElem_toArray, List.getElem_cons_zero, List.getElem_cons_succ, Act.put, List.setIfInBounds_toArray, List.set_cons_zero, List.set_cons_succ]
              refine wpAnyH_take (i := 14) (v := undef) rfl (by kernel_rfl) (by kernel_rfl) (by kernel_rfl) (fun _ _ _ h => h) (Or.inr ⟨by rfl, rfl⟩) hS ?_
              simp only [List.getElem_toArray, List.getElem_cons_zero, List.getElem_cons_succ, Act.put, List.setIfInBounds_toArray, List.set_cons_zero, List.set_cons_succ]
              refine wpAnyH_take (i := 15) (v := undef) rfl (by kernel_rfl) (by kernel_rfl) (by kernel_rfl) (fun _ _ _ h => h) (Or.inr ⟨by rfl, rfl⟩) hS ?_
              simp only [List.getElem_toArray, List.getElem_cons_zero, List.getElem_cons_succ, Act.put, List.setIfInBounds_toArray, List.set_cons_zero, List.set_cons_succ]
              refine wpAnyH_take (i := 16) (v := undef) rfl (by kernel_rfl) (by kernel_rfl) (by kernel_rfl) (fun _ _ _ h => h) (Or.inr ⟨by rfl, rfl⟩) hS ?_
              simp only [List.getElem_toArray, List.getElem_cons_zero, List.getElem_cons_succ, Act.put, List.setIfInBounds_toArray, List.set_cons_zero, List.set_cons_succ]
              refine wpAnyH_take (i := 17) (v := undef) rfl (by kernel_rfl) (by kernel_rfl) (by kernel_rfl) (fun _ _ _ h => h) (Or.inr ⟨by rfl, rfl⟩) hS ?_
              simp only [List.getElem_toArray, List.getElem_cons_zero, List.getElem_cons_succ, Act.put, List.setIfInBounds_toArray, List.set_cons_zero, List.set_cons_succ]
              refine wpAnyH_take (i := 18) (v := undef) rfl (by kernel_rfl) (by kernel_rfl) (by kernel_rfl) (fun _ _ _ h => h) (Or.inr ⟨by rfl, rfl⟩) hS ?_
              simp only [List.getElem_toArray, List.getElem_cons_zero, List.getElem_cons_succ, Act.put, List.setIfInBounds_toArray, List.set_cons_zero, List.set_cons_succ]
              refine wpAnyH_take (i := 19) (v := undef) rfl (by kernel_rfl) (by kernel_rfl) (by kernel_rfl) (fun _ _ _ h => h) (Or.inr ⟨by rfl, rfl⟩) hS ?_
              simp only [List.getElem_toArray, List.getElem_cons_zero, List.getElem_cons_succ, Act.put, List.setIfInBounds_toArray, List.set_cons_zero, List.set_cons_succ]
              refine wpAnyH_take (i := 20) (v := undef) rfl (by kernel_rfl) (by kernel_rfl) (by kernel_rfl) (fun _ _ _ h => h) (Or.inr ⟨by rfl, rfl⟩) hS ?_
              simp only [List.getElem_toArray, List.getElem_cons_zero, List.getElem_cons_succ, Act.put, List.setIfInBounds_toArray, List.set_cons_zero, List.set_cons_succ]
              refine wpAnyH_take (i := 21) (v := undef) rfl (by kernel_rfl) (by kernel_rfl) (by kernel_rfl) (fun _ _ _ h => h) (Or.inr ⟨by rfl, rfl⟩) hS ?_
              simp only [List.getElem_toArray, List.getElem_cons_zero, List.getElem_cons_succ, Act.put, List.setIfInBounds_toArray, List.set_cons_zero, List.set_cons_succ]
              refine wpAnyH_take (i := 22) (v := ?_) rfl (by kernel_rfl) (by kernel_rfl) (by kernel_rfl) (fun _ _ _ h => h) (Or.inl ⟨by rfl, ?_⟩) hS ?_
              rotate_left
              · intro w _; go_simp; try with_reducible rfl
              simp only [List.getElem_toArray, List.getElem_cons_zero, List.getElem_cons_succ, Act.put, List.setIfInBounds_toArray, List.set_cons_zero, List.set_cons_succ]
              refine wpAnyH_take (i := 23) (v := ?_) rfl (by kernel_rfl) (by kernel_rfl) (by kernel_rfl) (fun _ _ _ h => h) (Or.inl ⟨by rfl, ?_⟩) hS ?_
              rotate_left
              · intro w _; go_simp; try with_reducible rfl
              simp only [List.getElem_toArray, List.getElem_cons_zero, List.getElem_cons_succ, Act.put, List.setIfInBounds_toArray, List.set_cons_zero, List.set_cons_succ]
              refine wpAnyH_done (by kernel_rfl) ?_ _
              clear hS
              go_wp2_with fail
              go_ret
              exact ⟨by rw [fin.out, y2]; rfl, below_drewN hB2 1⟩
            · obtain rfl : Q = [] := List.length_eq_zero_iff.1 (by omega)
              obtain rfl : y = 0 := hy
              have ch := hash_c none 0 [] (World.drew w2) ⟨fun h => (by simp at h), fun p hp => (by cases hp), fun p hp => (by cases hp)⟩ (by simp) (by simp [flat]) (ht.below (below_drewN hB2 1))
              rw [show flat [] = ([] : List Int) from rfl] at ch
              simp only [List.length_nil] at ch
              go_wp2_with fail
              refine wp_region_held_drew (S := fun W => W.rangeAt b off (old.map (Value.int .u8)) ∧ W.rangeAt b (off + 32) (root.map (Value.int .u8))) (by kernel_rfl) (⟨r0, r1⟩) (fun hS => ?_)
              refine wpAnyH_take (i := 0) (v := ?_) rfl (by kernel_rfl) (by kernel_rfl) (by kernel_rfl) (fun _ _ _ h => h) (Or.inl ⟨by rfl, ?_⟩) hS ?_
              rotate_left
              · intro w _; go_simp; try with_reducible rfl
              simp only [List.getElem_toArray, List.getElem_cons_zero, List.getElem_cons_succ, Act.put, List.setIfInBounds_toArray, List.set_cons_zero, List.set_cons_succ]
              refine wpAnyH_take (i := 1) (v := ?_) rfl (by kernel_rfl) (by kernel_rfl) (by kernel_rfl) (fun _ _ _ h => h) (Or.inl ⟨by rfl, ?_⟩) hS ?_
              rotate_left
              · intro w _; go_simp; try with_reducible rfl
              simp only [List.getElem_toArray, List.getElem_cons_zero, List.getElem_cons_succ, Act.put, List.setIfInBounds_toArray, List.set_cons_zero, List.set_cons_succ]
              refine wpAnyH_take (i := 2) (v := ?_) rfl (by kernel_rfl) (by kernel_rfl) (by kernel_rfl) (fun _ _ _ h => h) (Or.inl ⟨by rfl, ?_⟩) hS ?_
              rotate_left
              · intro w _; go_simp; try with_reducible rfl
              simp only [List.getElem_toArray, List.getElem_cons_zero, List.getElem_cons_succ, Act.put, List.setIfInBounds_toArray, List.set_cons_zero, List.set_cons_succ]
              refine wpAnyH_take (i := 3) (v := ?_) rfl (by kernel_rfl) (by kernel_rfl) (by kernel_rfl) (fun _ _ _ h => h) (Or.inl ⟨by rfl, ?_⟩) hS ?_
              rotate_left
              · intro w _; go_simp; try with_reducible rfl
              simp only [List.getElem_toArray, List.getElem_cons_zero, List.getElem_cons_succ, Act.put, List.setIfInBounds_toArray, List.set_cons_zero, List.set_cons_succ]
              refine wpAnyH_take (i := 4) (v := ?_) rfl (by kernel_rfl) (by kernel_rfl) (by kernel_rfl) (fun _ _ _ h => h) (Or.inl ⟨by rfl, ?_⟩) hS ?_
              rotate_left
              · intro w _; go_simp; try with_reducible rfl
              simp only [List.getElem_toArray, List.getElem_cons_zero, List.getElem_cons_succ, Act.put, List.setIfInBounds_toArray, List.set_cons_zero, List.set_cons_succ]
              refine wpAnyH_take (i := 5) (v := ?_) rfl (by kernel_rfl) (by kernel_rfl) (by kernel_rfl) (fun _ _ _ h => h) (Or.inl ⟨by rfl, ?_⟩) hS ?_
              rotate_left
              · intro w _; go_simp; try with_reducible rfl
              simp only [List.getElem_toArray, List.getElem_cons_zero, List.getElem_cons_succ, Act.put, List.setIfInBounds_toArray, List.set_cons_zero, List.set_cons_succ]
              refine wpAnyH_take (i := 6) (v := dval old) rfl (by kernel_rfl) (by kernel_rfl) (by kernel_rfl) (fun _ _ _ h => h) (yieldsIf_load_D (by rfl) 64 _ rfl b (off) rfl old do_ _ (fun W h => h.1) Tryd.underlying64 rfl sizeD) hS ?_
              simp only [List.getElem_toArray, List.getElem_cons_zero, List.getElem_cons_succ, Act.put, List.setIfInBounds_toArray, List.set_cons_zero, List.set_cons_succ]
              refine wpAnyH_ready (rs := [7]) (by kernel_rfl) (by simp) ?_
              refine AllReadyH.cons rfl (fun K hK => ?_) AllReadyH.nil
              rw [if_pos (by rfl)]
              simp only [List.getElem_toArray, List.getElem_cons_zero, List.getElem_cons_succ]
              go_simp
              refine ch.mono ?_; rintro e_ w3 ⟨rfl, hb3⟩
              dsimp only
              have hB3 := (below_drewN hB2 1).trans (hb3.mono (below_drewN hB2 1).size)
              refine hK.out _ _ ⟨World.rangeAt.keep hS.1 do_ hb3, World.rangeAt.keep hS.2 dr hb3⟩ (fun hS => ?_)
              clear ch hb3
              by_cases he : old = shaD []
              · have de : decide (old = shaD []) = true := decide_eq_true he
                clear he
                refine wpAnyH_take (i := 8) (v := .bool true) rfl (by kernel_rfl) (by kernel_rfl) (by kernel_rfl) (fun _ _ _ h => h) (yieldsIf_eq_D (by rfl) 64 _ _ _ rfl old (shaD []) rfl rfl true (fun W_ => (eqD W_ _ _ do_ (shaD_dig _)).trans (by rw [de])) grdD) hS ?_
                simp only [List.getElem_toArray, List.getElem_cons_zero, List.getElem_cons_succ, Act.put, List.setIfInBounds_toArray, List.set_cons_zero, List.set_cons_succ]
                refine wpAnyH_take (i := 9) (v := ?_) rfl (by kernel_rfl) (by kernel_rfl) (by kernel_rfl) (fun _ _ _ h => h) (Or.inl ⟨by rfl, ?_⟩) hS ?_
                rotate_left
                · intro w _; go_simp; try with_reducible rfl
                simp only [List.getElem_toArray, List.getElem_cons_zero, List.getElem_cons_succ, Act.put, List.setIfInBounds_toArray, List.set_cons_zero, List.set_cons_succ]
                refine wpAnyH_take (i := 10) (v := ?_) rfl (by kernel_rfl) (by kernel_rfl) (by kernel_rfl) (fun _ _ _ h => h) (Or.inl ⟨by rfl, ?_⟩) hS ?_
                rotate_left
                · intro w _; go_simp; try with_reducible rfl
                simp only [List.getElem_toArray, List.getElem_cons_zero, List.getElem_cons_succ, Act.put, List.setIfInBounds_toArray, List.set_cons_zero, List.set_cons_succ]
                by_cases hm0 : 0 < m
                · have dm : decide (0 < m) = true := decide_eq_true hm0
                  have dm2 : decide (m > 0) = true := decide_eq_true hm0
                  refine wpAnyH_take (i := 11) (v := ?_) rfl (by kernel_rfl) (by kernel_rfl) (by kernel_rfl) (fun _ _ _ h => h) (Or.inl ⟨by rfl, ?_⟩) hS ?_
                  rotate_left
                  · intro w _; go_simp; try with_reducible rfl
                  simp only [List.getElem_toArray, List.getElem_cons_zero, List.getElem_cons_succ, Act.put, List.setIfInBounds_toArray, List.set_cons_zero, List.set_cons_succ]
                  refine wpAnyH_take (i := 12) (v := ?_) rfl (by kernel_rfl) (by kernel_rfl) (by kernel_rfl) (fun _ _ _ h => h) (Or.inl ⟨by rfl, ?_⟩) hS ?_
                  rotate_left
                  · intro w _; go_simp; try with_reducible rfl
                  simp only [List.getElem_toArray, List.getElem_cons_zero, List.getElem_cons_succ, Act.put, List.setIfInBounds_toArray, List.set_cons_zero, List.set_cons_succ]
                  refine wpAnyH_take (i := 13) (v := ?_) rfl (by kernel_rfl) (by kernel_rfl) (by kernel_rfl) (fun _ _ _ h => h) (Or.inl ⟨by rfl, ?_⟩) hS ?_
                  rotate_left
                  · intro w _; go_simp; try with_reducible rfl
                  simp only [List.getElem_toArray, List.getElem_cons_zero, List.getElem_cons_succ, Act.put, List.setIfInBounds_toArray, List.set_cons_zero, List.set_cons_succ]
                  refine wpAnyH_take (i := 14) (v := undef) rfl (by kernel_rfl) (by kernel_rfl) (by kernel_rfl) (fun _ _ _ h => h) (Or.inr ⟨by rfl, rfl⟩) hS ?_
                  simp only [List.getElem_toArray, List.getElem_cons_zero, List.getElem_cons_succ, Act.put, List.setIfInBounds_toArray, List.set_cons_zero, List.set_cons_succ]
                  refine wpAnyH_take (i := 15) (v := undef) rfl (by kernel_rfl) (by kernel_rfl) (by kernel_rfl) (fun _ _ _ h => h) (Or.inr ⟨by rfl, rfl⟩) hS ?_
                  simp only [List.getElem_toArray, List.getElem_cons_zero, List.getElem_cons_succ, Act.put, List.setIfInBounds_toArray, List.set_cons_zero, List.set_cons_succ]
                  refine wpAnyH_take (i := 16) (v := undef) rfl (by kernel_rfl) (by kernel_rfl) (by kernel_rfl) (fun _ _ _ h => h) (Or.inr ⟨by rfl, rfl⟩) hS ?_
                  simp only [List.getElem_toArray, List.getElem_cons_zero, List.getElem_cons_succ, Act.put, List.setIfInBounds_toArray, List.set_cons_zero, List.set_cons_succ]
                  refine wpAnyH_take (i := 17) (v := undef) rfl (by kernel_rfl) (by kernel_rfl) (by kernel_rfl) (fun _ _ _ h => h) (Or.inr ⟨by rfl, rfl⟩) hS ?_
                  simp only [List.getElem_toArray, List.getElem_cons_zero, List.getElem_cons_succ, Act.put, List.setIfInBounds_toArray, List.set_cons_zero, List.set_cons_succ]
                  refine wpAnyH_take (i := 18) (v := undef) rfl (by kernel_rfl) (by kernel_rfl) (by kernel_rfl) (fun _ _ _ h => h) (Or.inr ⟨by rfl, rfl⟩) hS ?_
                  simp only [List.getElem_toArray, List.getElem_cons_zero, List.getElem_cons_succ, Act.put, List.setIfInBounds_toArray, List.set_cons_zero, List.set_cons_succ]
                  refine wpAnyH_take (i := 19) (v := undef) rfl (by kernel_rfl) (by kernel_rfl) (by kernel_rfl) (fun _ _ _ h => h) (Or.inr ⟨by rfl, rfl⟩) hS ?_
                  simp only [List.getElem_toArray, List.getElem_cons_zero, List.getElem_cons_succ, Act.put, List.setIfInBounds_toArray, List.set_cons_zero, List.set_cons_succ]
                  refine wpAnyH_take (i := 20) (v := undef) rfl (by kernel_rfl) (by kernel_rfl) (by kernel_rfl) (fun _ _ _ h => h) (Or.inr ⟨by rfl, rfl⟩) hS ?_
                  simp only [List.getElem_toArray, List.getElem_cons_zero, List.getElem_cons_succ, Act.put, List.setIfInBounds_toArray, List.set_cons_zero, List.set_cons_succ]
                  refine wpAnyH_take (i := 21) (v := ?_) rfl (by kernel_rfl) (by kernel_rfl) (by kernel_rfl) (fun _ _ _ h => h) (Or.inl ⟨by rfl, ?_⟩) hS ?_
                  rotate_left
                  · intro w _; go_simp; try with_reducible rfl
                  simp only [List.getElem_toArray, List.getElem_cons_zero, List.getElem_cons_succ, Act.put, List.setIfInBounds_toArray, List.set_cons_zero, List.set_cons_succ]
                  refine wpAnyH_take (i := 22) (v := ?_) rfl (by kernel_rfl) (by kernel_rfl) (by kernel_rfl) (fun _ _ _ h => h) (Or.inl ⟨by rfl, ?_⟩) hS ?_
                  rotate_left
                  · intro w _; go_simp; try with_reducible rfl
                  simp only [List.getElem_toArray, List.getElem_cons_zero, List.getElem_cons_succ, Act.put, List.setIfInBounds_toArray, List.set_cons_zero, List.set_cons_succ]
                  refine wpAnyH_take (i := 23) (v := ?_) rfl (by kernel_rfl) (by kernel_rfl) (by kernel_rfl) (fun _ _ _ h => h) (Or.inl ⟨by rfl, ?_⟩) hS ?_
                  rotate_left
                  · intro w _; go_simp; try with_reducible rfl
                  simp only [List.getElem_toArray, List.getElem_cons_zero, List.getElem_cons_succ, Act.put, List.setIfInBounds_toArray, List.set_cons_zero, List.set_cons_succ]
                  refine wpAnyH_done (by kernel_rfl) ?_ _
                  clear hS
                  go_wp2_with fail
                  go_ret
                  exact ⟨by rw [fin.out, de, dm]; rfl, hB3⟩
                · have dm : decide (0 < m) = false := decide_eq_false hm0
                  have dm2 : decide (m > 0) = false := decide_eq_false hm0
                  refine wpAnyH_take (i := 11) (v := ?_) rfl (by kernel_rfl) (by kernel_rfl) (by kernel_rfl) (fun _ _ _ h => h) (Or.inl ⟨by rfl, ?_⟩) hS ?_
                  rotate_left
                  · intro w _; go_simp; try with_reducible rfl
                  simp only [List.getElem_toArray, List.getElem_cons_zero, List.getElem_cons_succ, Act.put, List.setIfInBounds_toArray, List.set_cons_zero, List.set_cons_succ]
                  refine wpAnyH_take (i := 12) (v := ?_) rfl (by kernel_rfl) (by kernel_rfl) (by kernel_rfl) (fun _ _ _ h => h) (Or.inl ⟨by rfl, ?_⟩) hS ?_
                  rotate_left
                  · intro w _; go_simp; try with_reducible rfl
                  simp only [List.getElem_toArray, List.getElem_cons_zero, List.getElem_cons_succ, Act.put, List.setIfInBounds_toArray, List.set_cons_zero, List.set_cons_succ]
                  refine wpAnyH_take (i := 13) (v := ?_) rfl (by kernel_rfl) (by kernel_rfl) (by kernel_rfl) (fun _ _ _ h => h) (Or.inl ⟨by rfl, ?_⟩) hS ?_
                  rotate_left
                  · intro w _; go_simp; try with_reducible rfl
                  simp only [List.getElem_toArray, List.getElem_cons_zero, List.getElem_cons_succ, Act.put, List.setIfInBounds_toArray, List.set_cons_zero, List.set_cons_succ]
                  refine wpAnyH_take (i := 14) (v := ?_) rfl (by kernel_rfl) (by kernel_rfl) (by kernel_rfl) (fun _ _ _ h => h) (Or.inl ⟨by rfl, ?_⟩) hS ?_
                  rotate_left
                  · intro w _; go_simp; try with_reducible rfl
                  simp only [List.getElem_toArray, List.getElem_cons_zero, List.getElem_cons_succ, Act.put, List.setIfInBounds_toArray, List.set_cons_zero, List.set_cons_succ]
                  refine wpAnyH_take (i := 15) (v := ?_) rfl (by kernel_rfl) (by kernel_rfl) (by kernel_rfl) (fun _ _ _ h => h) (Or.inl ⟨by rfl, ?_⟩) hS ?_
                  rotate_left
                  · intro w _; go_simp; try with_reducible rfl
                  simp only [List.getElem_toArray, List.getElem_cons_zero, List.getElem_cons_succ, Act.put, List.setIfInBounds_toArray, List.set_cons_zero, List.set_cons_succ]
                  refine wpAnyH_take (i := 16) (v := dval root) rfl (by kernel_rfl) (by kernel_rfl) (by kernel_rfl) (fun _ _ _ h => h) (yieldsIf_load_D (by rfl) 64 _ rfl b (off + 32) rfl root dr _ (fun W h => h.2) Tryd.underlying64 rfl sizeD) hS ?_
                  simp only [List.getElem_toArray, List.getElem_cons_zero, List.getElem_cons_succ, Act.put, List.setIfInBounds_toArray, List.set_cons_zero, List.set_cons_succ]
                  refine wpAnyH_take (i := 17) (v := ?_) rfl (by kernel_rfl) (by kernel_rfl) (by kernel_rfl) (fun _ _ _ h => h) (Or.inl ⟨by rfl, ?_⟩) hS ?_
                  rotate_left
                  · intro w _; go_simp; try with_reducible rfl
                  simp only [List.getElem_toArray, List.getElem_cons_zero, List.getElem_cons_succ, Act.put, List.setIfInBounds_toArray, List.set_cons_zero, List.set_cons_succ]
                  refine wpAnyH_take (i := 18) (v := ?_) rfl (by kernel_rfl) (by kernel_rfl) (by kernel_rfl) (fun _ _ _ h => h) (Or.inl ⟨by rfl, ?_⟩) hS ?_
                  rotate_left
                  · intro w _; go_simp; try with_reducible rfl
                  simp only [List.getElem_toArray, List.getElem_cons_zero, List.getElem_cons_succ, Act.put, List.setIfInBounds_toArray, List.set_cons_zero, List.set_cons_succ]
                  refine wpAnyH_take (i := 19) (v := dval old) rfl (by kernel_rfl) (by kernel_rfl) (by kernel_rfl) (fun _ _ _ h => h) (yieldsIf_load_D (by rfl) 64 _ rfl b (off) rfl old do_ _ (fun W h => h.1) Tryd.underlying64 rfl sizeD) hS ?_
                  simp only [List.getElem_toArray, List.getElem_cons_zero, List.getElem_cons_succ, Act.put, List.setIfInBounds_toArray, List.set_cons_zero, List.set_cons_succ]
                  obtain ⟨R, hR⟩ : ∃ R, R = decide (root = old) := ⟨_, rfl⟩
                  refine wpAnyH_take (i := 20) (v := .bool R) rfl (by kernel_rfl) (by kernel_rfl) (by kernel_rfl) (fun _ _ _ h => h) (yieldsIf_eq_D (by rfl) 64 _ _ _ rfl root old rfl rfl R (fun W_ => (eqD W_ _ _ dr do_).trans (by rw [← hR])) grdD) hS ?_
                  simp only [List.getElem_toArray, List.getElem_cons_zero, List.getElem_cons_succ, Act.put, List.setIfInBounds_toArray, List.set_cons_zero, List.set_cons_succ]
                  have HRR := Lib.hid hR
                  clear hR
                  refine wpAnyH_take (i := 21) (v := ?_) rfl (by kernel_rfl) (by kernel_rfl) (by kernel_rfl) (fun _ _ _ h => h) (Or.inl ⟨by rfl, ?_⟩) hS ?_
                  rotate_left
                  · intro w _; go_simp; try with_reducible rfl
                  simp only [List.getElem_toArray, List.getElem_cons_zero, List.getElem_cons_succ, Act.put, List.setIfInBounds_toArray, List.set_cons_zero, List.set_cons_succ]
                  refine wpAnyH_take (i := 22) (v := ?_) rfl (by kernel_rfl) (by kernel_rfl) (by kernel_rfl) (fun _ _ _ h => h) (Or.inl ⟨by rfl, ?_⟩) hS ?_
                  rotate_left
                  · intro w _; go_simp; try with_reducible rfl
                  simp only [List.getElem_toArray, List.getElem_cons_zero, List.getElem_cons_succ, Act.put, List.setIfInBounds_toArray, List.set_cons_zero, List.set_cons_succ]
                  refine wpAnyH_take (i := 23) (v := ?_) rfl (by kernel_rfl) (by kernel_rfl) (by kernel_rfl) (fun _ _ _ h => h) (Or.inl ⟨by rfl, ?_⟩) hS ?_
                  rotate_left
                  · intro w _; go_simp; try with_reducible rfl
                  simp only [List.getElem_toArray, List.getElem_cons_zero, List.getElem_cons_succ, Act.put, List.setIfInBounds_toArray, List.set_cons_zero, List.set_cons_succ]
                  refine wpAnyH_done (by kernel_rfl) ?_ _
                  clear hS
                  go_wp2_with fail
                  go_ret
                  exact ⟨by rw [fin.out, de, dm, HRR.out]; rfl, hB3⟩
              · have de : decide (old = shaD []) = false := decide_eq_false he
                clear he
                refine wpAnyH_take (i := 8) (v := .bool false) rfl (by kernel_rfl) (by kernel_rfl) (by kernel_rfl) (fun _ _ _ h => h) (yieldsIf_eq_D (by rfl) 64 _ _ _ rfl old (shaD []) rfl rfl false (fun W_ => (eqD W_ _ _ do_ (shaD_dig _)).trans (by rw [de])) grdD) hS ?_
                simp only [List.getElem_toArray, List.getElem_cons_zero, List.getElem_cons_succ, Act.put, List.setIfInBounds_toArray, List.set_cons_zero, List.set_cons_succ]
                refine wpAnyH_take (i := 9) (v := ?_) rfl (by kernel_rfl) (by kernel_rfl) (by kernel_rfl) (fun _ _ _ h => h) (Or.inl ⟨by rfl, ?_⟩) hS ?_
                rotate_left
                · intro w _; go_simp; try with_reducible rfl
                simp only [List.getElem_toArray, List.getElem_cons_zero, List.getElem_cons_succ, Act.put, List.setIfInBounds_toArray, List.set_cons_zero, List.set_cons_succ]
                refine wpAnyH_take (i := 10) (v := ?_) rfl (by kernel_rfl) (by kernel_rfl) (by kernel_rfl) (fun _ _ _ h => h) (Or.inl ⟨by rfl, ?_⟩) hS ?_
                rotate_left
                · intro w _; go_simp; try with_reducible rfl
                simp only [List.getElem_toArray, List.getElem_cons_zero, List.getElem_cons_succ, Act.put, List.setIfInBounds_toArray, List.set_cons_zero, List.set_cons_succ]
                refine wpAnyH_take (i := 11) (v := undef) rfl (by kernel_rfl) (by kernel_rfl) (by kernel_rfl) (fun _ _ _ h => h) (Or.inr ⟨by rfl, rfl⟩) hS ?_
                simp only [List.getElem_toArray, List.getElem_cons_zero, List.getElem_cons_succ, Act.put, List.setIfInBounds_toArray, List.set_cons_zero, List.set_cons_succ]
                refine wpAnyH_take (i := 12) (v := undef) rfl (by kernel_rfl) (by kernel_rfl) (by kernel_rfl) (fun _ _ _ h => h) (Or.inr ⟨by rfl, rfl⟩) hS ?_
                simp only [List.getElem_toArray, List.getElem_cons_zero, List.getElem_cons_succ, Act.put, List.setIfInBounds_toArray, List.set_cons_zero, List.set_cons_succ]
                refine wpAnyH_take (i := 13) (v := undef) rfl (by kernel_rfl) (by kernel_rfl) (by kernel_rfl) (fun _ _ _ h => h) (Or.inr ⟨by rfl, rfl⟩) hS ?_
                simp only [List.getElem_toArray, List.getElem_cons_zero, List.getElem_cons_succ, Act.put, List.setIfInBounds_toArray, List.set_cons_zero, List.set_cons_succ]
                refine wpAnyH_take (i := 14) (v := undef) rfl (by kernel_rfl) (by kernel_rfl) (by kernel_rfl) (fun _ _ _ h => h) (Or.inr ⟨by rfl, rfl⟩) hS ?_
                simp only [List.getElem_toArray, List.getElem_cons_zero, List.getElem_cons_succ, Act.put, List.setIfInBounds_toArray, List.set_cons_zero, List.set_cons_succ]
                refine wpAnyH_take (i := 15) (v := undef) rfl (by kernel_rfl) (by kernel_rfl) (by kernel_rfl) (fun _ _ _ h => h) (Or.inr ⟨by rfl, rfl⟩) hS ?_
                simp only [List.getElem_toArray, List.getElem_cons_zero, List.getElem_cons_succ, Act.put, List.setIfInBounds_toArray, List.set_cons_zero, List.set_cons_succ]
                refine wpAnyH_take (i := 16) (v := undef) rfl (by kernel_rfl) (by kernel_rfl) (by kernel_rfl) (fun _ _ _ h => h) (Or.inr ⟨by rfl, rfl⟩) hS ?_
                simp only [List.getElem_toArray, List.getElem_cons_zero, List.getElem_cons_succ, Act.put, List.setIfInBounds_toArray, List.set_cons_zero, List.set_cons_succ]
                refine wpAnyH_take (i := 17) (v := undef) rfl (by kernel_rfl) (by kernel_rfl) (by kernel_rfl) (fun _ _ _ h => h) (Or.inr ⟨by rfl, rfl⟩) hS ?_
                simp only [List.getElem_toArray, List.getElem_cons_zero, List.getElem_cons_succ, Act.put, List.setIfInBounds_toArray, List.set_cons_zero, List.set_cons_succ]
                refine wpAnyH_take (i := 18) (v := undef) rfl (by kernel_rfl) (by kernel_rfl) (by kernel_rfl) (fun _ _ _ h => h) (Or.inr ⟨by rfl, rfl⟩) hS ?_
                simp only [List.getElem_toArray, List.getElem_cons_zero, List.getElem_cons_succ, Act.put, List.setIfInBounds_toArray, List.set_cons_zero, List.set_cons_succ]
                refine wpAnyH_take (i := 19) (v := undef) rfl (by kernel_rfl) (by kernel_rfl) (by kernel_rfl) (fun _ _ _ h => h) (Or.inr ⟨by rfl, rfl⟩) hS ?_
                simp only [List.getElem_toArray, List.getElem_cons_zero, List.getElem_cons_succ, Act.put, List.setIfInBounds_toArray, List.set_cons_zero, List.set_cons_succ]
                refine wpAnyH_take (i := 20) (v := undef) rfl (by kernel_rfl) (by kernel_rfl) (by kernel_rfl) (fun _ _ _ h => h) (Or.inr ⟨by rfl, rfl⟩) hS ?_
                simp only [List.getElem_toArray, List.getElem_cons_zero, List.getElem_cons_succ, Act.put, List.setIfInBounds_toArray, List.set_cons_zero, List.set_cons_succ]
                refine wpAnyH_take (i := 21) (v := undef) rfl (by kernel_rfl) (by kernel_rfl) (by kernel_rfl) (fun _ _ _ h => h) (Or.inr ⟨by rfl, rfl⟩) hS ?_
                simp only [List.getElem_toArray, List.getElem_cons_zero, List.getElem_cons_succ, Act.put, List.setIfInBounds_toArray, List.set_cons_zero, List.set_cons_succ]
                refine wpAnyH_take (i := 22) (v := ?_) rfl (by kernel_rfl) (by kernel_rfl) (by kernel_rfl) (fun _ _ _ h => h) (Or.inl ⟨by rfl, ?_⟩) hS ?_
                rotate_left
                · intro w _; go_simp; try with_reducible rfl
                simp only [List.getElem_toArray, List.getElem_cons_zero, List.getElem_cons_succ, Act.put, List.setIfInBounds_toArray, List.set_cons_zero, List.set_cons_succ]
                refine wpAnyH_take (i := 23) (v := ?_) rfl (by kernel_rfl) (by kernel_rfl) (by kernel_rfl) (fun _ _ _ h => h) (Or.inl ⟨by rfl, ?_⟩) hS ?_
                rotate_left
                · intro w _; go_simp; try with_reducible rfl
                simp only [List.getElem_toArray, List.getElem_cons_zero, List.getElem_cons_succ, Act.put, List.setIfInBounds_toArray, List.set_cons_zero, List.set_cons_succ]
                refine wpAnyH_done (by kernel_rfl) ?_ _
                clear hS
                go_wp2_with fail
                go_ret
                exact ⟨by rw [fin.out, de]; rfl, hB3⟩
          · obtain ⟨N, rfl⟩ : ∃ N : Nat, n = (N : Int) := ⟨n.toNat, by omega⟩
            obtain ⟨M, rfl⟩ : ∃ M : Nat, m = (M : Int) := ⟨m.toNat, by omega⟩
            have g8 : decide (M < N) = false := decide_eq_false (by omega)
            have g9 : ¬ M < N := by omega
            go_enter Tryd.func24, Tryd.ntmps24
            go_wp2_with fail
            refine c1.mono ?_; rintro e_ w1 ⟨v, rfl, hv, hb⟩
            have hB := al.trans (hb.mono al.size)
            have c3 := c2 _ hB
            clear c1 c2
            go_wp2_with fail
            refine c3.mono ?_; rintro e_ w2 ⟨v2, rfl, hv2, hb2⟩
            have hB2 := hB.trans (hb2.mono hB.size)
            clear c3

            replace hv := (hv h1).keep hb2
            replace hv2 := hv2 h2
            obtain ⟨ae, ce, rfl, se⟩ := hv.sl
            obtain ⟨ap, cp, rfl, sp⟩ := hv2.sl
            have do_ : Dig old := ⟨h1.1, uo⟩
            have dr : Dig root := ⟨h1.2, ur⟩
            obtain ⟨b, off, rfl, r1⟩ := se.range (i := 1) (by simp)
            obtain ⟨b', off', eb, r0⟩ := se.range (i := 0) (by simp)
            cases eb
            simp only [List.getElem_cons_succ, List.getElem_cons_zero, Nat.one_mul, Nat.zero_mul, Nat.add_zero] at r0 r1
            obtain ⟨Q, hQ⟩ : ∃ Q, Q = ps.map (·.xs) := ⟨_, rfl⟩
            rw [← hQ] at sp ⊢
            obtain ⟨y, hy⟩ : ∃ z, z = Q.length := ⟨_, rfl⟩
            have HY := Lib.hid hy
            have HQ := Lib.hid hQ
            have l2 : ([old, root] : List (List Int)).length = 2 := rfl
            rw [l2]
            clear l2 hb hb2 hB h2 hv hv2 se

            have fin : Hid (∀ (x y : List Int) (ok : Bool), bothH pairD 63 M N true old Q = (if ok = true then some (x, y) else none) → decide (growP old (N : Int) root (M : Int) (ps.map (·.xs))) = (ok && decide (x = old) && decide (y = root))) := Lib.hid (fun x y ok h => by
              have e : growP old (N : Int) root (M : Int) Q ↔ bothH pairD 63 M N true old Q = some (old, root) := by
                unfold growP
                rw [if_neg (by omega), Int.toNat_natCast, Int.toNat_natCast]
                refine ⟨fun h => h.2.2.2.2, fun h => ⟨h1, ?_, by omega, by omega, h⟩⟩
                rw [HQ.out]
                exact e2.out.1 (of_decide_eq_true HB2.out.symm)
              rw [show ps.map (·.xs) = Q from HQ.out.symm]
              exact Bool.eq_iff_iff.2 (by
                simp only [decide_eq_true_eq, Bool.and_eq_true]
                rw [e, h]
                cases ok <;> simp))
            have cl := both_c M M (Nat.le_refl _) 63 N true old ap cp Q w2 (by omega) (by omega) (by omega) (by omega) do_ sp (ht.below hB2)
            rw [← hy] at cl ⊢
            have nz : ((N : Int) == 0) = false := by simp; omega
            clear hQ hy sp
            go_wp2_with (refine wpList_load_D rfl 64 _ rfl b (off) rfl old do_ _ r0 Tryd.underlying64 rfl sizeD ?_)
            refine cl.mono ?_; rintro e_ w3 ⟨x, x2, ok, rfl, dx, dx2, er, hb3⟩
            have ER := Lib.hid (fin.out x x2 ok er)
            have r03 := World.rangeAt.keep r0 do_ hb3
            have r13 := World.rangeAt.keep r1 dr hb3
            have V3 : Vars 64 w w3 [] := ⟨fun _ h => (by cases h), by simp, fun _ h => (by cases h), hB2.trans (hb3.mono hB2.size)⟩
            clear cl er fin r0 r1 hB2 hb3
            have bl : Hid (b < w3.heap.size) := Lib.hid (World.block_lt_of_cell? _ _ (r03 0 (.int .u8 (nth old 0)) (by rw [List.getElem?_map, List.getElem?_eq_getElem (by rw [do_.1]; omega), nth_get _ _ (by rw [do_.1]; omega)]; rfl)))
            go_wp2_with (with_reducible refine wpList_alloc_rw rfl 64 rfl (noDig.map (Value.int .u8)) _ zeroD ?_)
            intro w4 hk_ hs_ hb_
            have V4 := Vars.add V3 hk_ hb_ dig_no
            have r04 := World.rangeAt.keep r03 do_ hb_
            have r14 := World.rangeAt.keep r13 dr hb_
            have bl4 : Hid (b < w4.heap.size) := Lib.hid (Nat.lt_of_lt_of_le bl.out hb_.size)
            obtain ⟨g4, hg_⟩ : ∃ g, g = w3.heap.size := ⟨_, rfl⟩
            have n4 : Hid (b ≠ g4) := Lib.hid (by rw [hg_]; exact Nat.ne_of_lt bl.out)
            rw [← hg_] at V4 ⊢
            simp only [List.nil_append, List.cons_append] at V4
            clear hk_ hs_ hb_ hg_ r03 r13
            go_wp2_with (with_reducible refine wpList_alloc_rw rfl 64 rfl (noDig.map (Value.int .u8)) _ zeroD ?_)
            intro w5 hk_ hs_ hb_
            have V5 := Vars.add V4 hk_ hb_ dig_no
            have r05 := World.rangeAt.keep r04 do_ hb_
            have r15 := World.rangeAt.keep r14 dr hb_
            obtain ⟨g5, hg_⟩ : ∃ g, g = w4.heap.size := ⟨_, rfl⟩
            have n54 : b ≠ g4 ∧ b ≠ g5 := ⟨n4.out, by rw [hg_]; exact Nat.ne_of_lt bl4.out⟩
            rw [← hg_] at V5 ⊢
            simp only [List.nil_append, List.cons_append] at V5
            clear hk_ hs_ hb_ hg_ r04 r14
            clear V3 V4
            go_wp2_with (refine wpList_store_V rfl 64 _ _ rfl g4 64 noDig x rfl rfl (Vars.at_ V5 (i := 0) rfl) (Vars.dig V5 (i := 0) rfl) dx sizeD ?_)
            intro w6 hk_ hg_ hs_
            have r06 := World.rangeAt.grown r05 do_ hg_ (fun e => n54.1 (Option.some.inj e))
            have r16 := World.rangeAt.grown r15 dr hg_ (fun e => n54.1 (Option.some.inj e))
            have V6 := Vars.set V5 0 (g := g4) rfl hk_ hg_ dx
            simp only [List.set_cons_zero, List.set_cons_succ] at V6
            clear hk_ hg_ hs_ V5 r05 r15
            go_wp2_with (refine wpList_store_V rfl 64 _ _ rfl g5 64 noDig x2 rfl rfl (Vars.at_ V6 (i := 1) rfl) (Vars.dig V6 (i := 1) rfl) dx2 sizeD ?_)
            intro w7 hk_ hg_ hs_
            have r07 := World.rangeAt.grown r06 do_ hg_ (fun e => n54.2 (Option.some.inj e))
            have r17 := World.rangeAt.grown r16 dr hg_ (fun e => n54.2 (Option.some.inj e))
            have V7 := Vars.set V6 1 (g := g5) rfl hk_ hg_ dx2
            simp only [List.set_cons_zero, List.set_cons_succ] at V7
            clear hk_ hg_ hs_ V6 r06 r16
            go_wp2_with fail
            refine wp_region_still_lit (by kernel_rfl) (by kernel_rfl) ?_
            change wpStill _ _ (World.drew _) _ _ _
            cases ok with
            | false =>
              repeat still_step
              refine wpStill_nil ?_
              go_wp2_with fail
              go_ret
              exact ⟨by rw [ER.out]; rfl, (V7.drew 1).below⟩
            | true =>
              still_step
              still_step
              (refine wpStill_load_V (by rfl) 64 _ rfl g4 64 x rfl (Vars.at_ V7 (i := 0) rfl) (Vars.dig V7 (i := 0) rfl) _ Tryd.underlying64 rfl sizeD ?_)
              still_step
              still_step
              (refine wpStill_load_D (by rfl) 64 _ rfl b (off) rfl old do_ _ r07 Tryd.underlying64 rfl sizeD ?_)
              by_cases hx : x = old
              · have ex : decide (x = old) = true := decide_eq_true hx
                clear hx
                (refine wpStill_eq_D (by rfl) 64 _ _ _ rfl x old rfl rfl true ((eqD _ _ _ dx do_).trans (by rw [ex])) grdD ?_)
                still_step
                still_step
                (refine wpStill_load_V (by rfl) 64 _ rfl g5 64 x2 rfl (Vars.at_ V7 (i := 1) rfl) (Vars.dig V7 (i := 1) rfl) _ Tryd.underlying64 rfl sizeD ?_)
                still_step
                still_step
                (refine wpStill_load_D (by rfl) 64 _ rfl b (off + 32) rfl root dr _ r17 Tryd.underlying64 rfl sizeD ?_)
                (refine wpStill_eq_D (by rfl) 64 _ _ _ rfl x2 root rfl rfl (decide (x2 = root)) (eqD _ _ _ dx2 dr) grdD ?_)
                repeat still_step
                refine wpStill_nil ?_
                go_wp2_with fail
                go_ret
                exact ⟨by rw [ER.out, ex]; rfl, (V7.drew 1).below⟩
              · have ex : decide (x = old) = false := decide_eq_false hx
                clear hx
                (refine wpStill_eq_D (by rfl) 64 _ _ _ rfl x old rfl rfl false ((eqD _ _ _ dx do_).trans (by rw [ex])) grdD ?_)
                repeat still_step
                refine wpStill_nil ?_
                go_wp2_with fail
                go_ret
                exact ⟨by rw [ER.out, ex]; rfl, (V7.drew 1).below⟩
        · have g4 : decide (m < n) = true := decide_eq_true (by omega)
          have g5 : decide (n > m) = true := decide_eq_true (by omega)
          have g3 : decide (n < 0) = false := decide_eq_false (by omega)
          have g6 : m < n := by omega
          have e : Hid (decide (growP old n root m (ps.map (·.xs))) = false) := Lib.hid (decide_eq_false fun h => h4 h.2.2.2.1)

          go_enter Tryd.func24, Tryd.ntmps24
          go_wp2_with fail
          refine c1.mono ?_; rintro e_ w1 ⟨v, rfl, hv, hb⟩
          have hB := al.trans (hb.mono al.size)
          have c3 := c2 _ hB
          clear c1 c2
          go_wp2_with fail
          refine c3.mono ?_; rintro e_ w2 ⟨v2, rfl, hv2, hb2⟩
          have hB2 := hB.trans (hb2.mono hB.size)
          clear c3

          go_wp2_with fail
          go_ret
          exact ⟨by rw [e.out]; rfl, hB2⟩
      · have g3 : decide (n < 0) = true := decide_eq_true (by omega)
        have g5 : n < 0 := by omega
        have e : Hid (decide (growP old n root m (ps.map (·.xs))) = false) := Lib.hid (decide_eq_false fun h => h3 h.2.2.1)

        go_enter Tryd.func24, Tryd.ntmps24
        go_wp2_with fail
        refine c1.mono ?_; rintro e_ w1 ⟨v, rfl, hv, hb⟩
        have hB := al.trans (hb.mono al.size)
        have c3 := c2 _ hB
        clear c1 c2
        go_wp2_with fail
        refine c3.mono ?_; rintro e_ w2 ⟨v2, rfl, hv2, hb2⟩
        have hB2 := hB.trans (hb2.mono hB.size)
        clear c3

        go_wp2_with fail
        go_ret
        exact ⟨by rw [e.out]; rfl, hB2⟩
  · simp only [decide_eq_false h1] at c1
    have e : Hid (decide (growP old n root m (ps.map (·.xs))) = false) := Lib.hid (decide_eq_false fun h => h1 h.1)

    go_enter Tryd.func24, Tryd.ntmps24
    go_wp2_with fail
    refine c1.mono ?_; rintro e_ w1 ⟨v, rfl, hv, hb⟩
    have hB := al.trans (hb.mono al.size)
    have c3 := c2 _ hB
    clear c1 c2
    go_wp2_with fail
    refine c3.mono ?_; rintro e_ w2 ⟨v2, rfl, hv2, hb2⟩
    have hB2 := hB.trans (hb2.mono hB.size)
    clear c3

    go_wp2_with fail
    go_ret
    exact ⟨by rw [e.out]; rfl, hB2⟩
end Go.Proofs.YtmbifokiebjmmaaDoor
/- log.Log: New, Append, Size, Root, Proof, Growth by their contracts. (Printed by gen_logha.py.) -/
set_option linter.unusedVariables false
set_option linter.unusedSimpArgs false
namespace Go.Sg
open Go.RowKit
/-- What is of neither of two kinds stays. -/
def KeepT (E F : TypeId) (w w' : World) : Prop := w.heap.size ≤ w'.heap.size ∧ ∀ (c : Nat) (cs : Array Value) (T : TypeId) (z : Nat × Nat), w.heap[c]? = some (.cells cs T z) → T ≠ E → T ≠ F → w'.heap[c]? = some (.cells cs T z)
theorem KeepT.refl (E F : TypeId) (w : World) : KeepT E F w w := ⟨Nat.le_refl _, fun _ _ _ _ h _ _ => h⟩
theorem KeepT.trans {E F : TypeId} {w w' w'' : World} (h : KeepT E F w w') (h' : KeepT E F w' w'') : KeepT E F w w'' := ⟨Nat.le_trans h.1 h'.1, fun c cs T z hc h1 h2 => h'.2 c cs T z (h.2 c cs T z hc h1 h2) h1 h2⟩
theorem KeepT.below {E F : TypeId} {w w' : World} (hb : Below w.heap.size w w') : KeepT E F w w' := ⟨hb.size, fun c cs T z hc _ _ => by rw [hb.block c (Array.getElem?_eq_some_iff.1 hc).1]; exact hc⟩
theorem KeepT.grown {E F : TypeId} {w w' : World} {row : Option Nat} (hg : w.grownBy w' row) (h : ∀ g, row = some g → g < w.heap.size → ∃ cs T z, w.heap[g]? = some (.cells cs T z) ∧ (T = E ∨ T = F)) : KeepT E F w w' :=
  ⟨hg.size, fun c cs T z hc h1 h2 => by
    have hlt := (Array.getElem?_eq_some_iff.1 hc).1
    rw [hg.block c hlt (fun e => by
      obtain ⟨cs', T', z', h3, h4⟩ := h c e.symm hlt
      rw [hc] at h3
      simp only [Option.some.injEq, Obj.cells.injEq] at h3
      rw [← h3.2.1] at h4
      rcases h4 with h4 | h4
      · exact h1 h4
      · exact h2 h4)]
    exact hc⟩
theorem KeepT.newV {E F : TypeId} {w w' : World} {B : Nat} {T : TypeId} {v : Value} {vs : List Value} (h : KeepT E F w w') (hv : NewV B T w v vs) (h1 : T ≠ E) (h2 : T ≠ F) : NewV B T w' v vs := by
  rcases hv with hv | ⟨g, cap, cs, rfl, hg, hh, r⟩
  · exact .inl hv
  · exact .inr ⟨g, cap, cs, rfl, hg, h.2 g cs T _ hh h1 h2, r⟩
theorem KeepT.new {E F : TypeId} {w w' : World} {B : Nat} {T : TypeId} {k : IntKind} {v : Value} {xs : List Int} (h : KeepT E F w w') (hv : New B k T w v xs) (h1 : T ≠ E) (h2 : T ≠ F) : New B k T w' v xs := by
  rcases hv with hv | ⟨g, cap, cs, rfl, hg, hh, r⟩
  · exact .inl hv
  · exact .inr ⟨g, cap, cs, rfl, hg, h.2 g cs T _ hh h1 h2, r⟩
theorem NewD.heapT {B : Nat} {E : TypeId} {w : World} {v : Value} {ds : List (List Int)} {g : Nat} (h : NewD B E w v ds) (hg : v.ownBlock = some g) : ∃ cs, w.heap[g]? = some (.cells cs E (0, 0)) := by
  obtain ⟨_, ⟨rfl, _⟩ | ⟨q, cap, cs, rfl, _, hh, _⟩⟩ := h
  · simp [Value.ownBlock] at hg
  · cases hg
    exact ⟨cs, hh⟩
end Go.Sg
namespace Go.Proofs.YtmbifokiebjmmaaDoor
open Go.RowKit Go.Sg
/-- A log that holds these leaves' hashes. -/
def LogAt (B : Nat) (w : World) (g : Nat) (ds : List (List Int)) : Prop := ∃ v, w.heap[g]? = some (.cells #[v] 83 (0, 0)) ∧ NewD B 64 w v ds ∧ B ≤ g
abbrev KeepL (w w' : World) : Prop := KeepT 83 64 w w'
section
variable {B g : Nat} {w w' : World} {ds : List (List Int)}
theorem LogAt.lt (h : LogAt B w g ds) : g < w.heap.size := by
  obtain ⟨v, hh, _⟩ := h
  exact (Array.getElem?_eq_some_iff.1 hh).1
theorem LogAt.keep (h : LogAt B w g ds) (hb : Below w.heap.size w w') : LogAt B w' g ds := by
  obtain ⟨v, hh, hv, hB⟩ := h
  exact ⟨v, by rw [hb.block g (Array.getElem?_eq_some_iff.1 hh).1]; exact hh, hv.keep hb, hB⟩
theorem LogAt.drew (h : LogAt B w g ds) : LogAt B w.drew g ds := h
theorem LogAt.by_blocks (h : LogAt B w g ds) (hf : ∀ (c : Nat) (cs : Array Value) (T : TypeId) (z : Nat × Nat), w.heap[c]? = some (.cells cs T z) → T = 83 ∨ T = 64 → w'.heap[c]? = some (.cells cs T z)) : LogAt B w' g ds := by
  obtain ⟨v, hh, ⟨hd, hv⟩, hB⟩ := h
  refine ⟨v, hf g _ _ _ hh (.inl rfl), ⟨hd, ?_⟩, hB⟩
  rcases hv with hv | ⟨q, cap, cs, rfl, h1, h2, r⟩
  · exact .inl hv
  · exact .inr ⟨q, cap, cs, rfl, h1, hf q _ _ _ h2 (.inr rfl), r⟩
theorem LogAt.cell (h : LogAt B w g ds) : ∃ a c, w.cell? ⟨g, 0, none⟩ = some (.slice a ds.length c) ∧ w.frozen? ⟨g, 0, none⟩ = false ∧ SlD w a c ds := by
  obtain ⟨v, hh, hv, hB⟩ := h
  obtain ⟨a, c, rfl, sd⟩ := hv.sl
  exact ⟨a, c, by rw [cell_of_row w g 0 _ _ (0, 0) hh]; rfl, frozen_of_row w g 0 _ _ hh, sd⟩
end
set_option maxHeartbeats 4000000 in
theorem LogNew_c (w : World) : Calls Tryd.prog 26 #[] w (fun e w' => ∃ g, e = .returned (.pointer (some ⟨g, 0, none⟩)) ∧ LogAt w.heap.size w' g [] ∧ Below w.heap.size w w') := by
  go_enter Tryd.func26, Tryd.ntmps26
  go_wp2_with fail
  go_ret
  exact ⟨w.heap.size, rfl, ⟨_, Go.heap_alloc_new w _, .nil _ _ _, Nat.le_refl _⟩, (Below.refl _ _).alloc (Nat.le_refl _) _⟩
set_option maxHeartbeats 4000000 in
theorem LogSize_c (B g : Nat) (ds : List (List Int)) (w : World) (hl : LogAt B w g ds) : Calls Tryd.prog 29 #[.pointer (some ⟨g, 0, none⟩)] w (fun e w' => e = .returned (.int .i64 (ds.length : Int)) ∧ w' = w) := by
  obtain ⟨a, c, hc, hf, sd⟩ := hl.cell
  obtain ⟨n, hn⟩ : ∃ n, n = ds.length := ⟨_, rfl⟩
  rw [← hn] at hc ⊢
  clear hn sd hl
  go_enter Tryd.func29, Tryd.ntmps29
  go_wp2_with fail
  go_ret
  exact ⟨rfl, rfl⟩
/-- A hash as bytes, or the code. -/
def RootPost (r : Option (List Int)) (w : World) (e : Ending) (w' : World) : Prop := ∃ v, e = .returned (.tuple #[v, .int .i64 (if r = none then 250 else 0)]) ∧ New w.heap.size .u8 5 w' v (r.getD []) ∧ (r = none → v = .slice none 0 0) ∧ Below w.heap.size w w'
theorem cutD_to (W : World) (a : Option Addr) (n cap k : Nat) (hk : k ≤ cap) : (Instr.sliceAt 66 (.slice a n cap) none (some (.int .i64 (k : Int))) none).run Tryd.prog W = .ok (.slice a k cap) W :=
  run_toD W 66 64 Tryd.underlying66 sizeD a n cap k hk (k : Int) rfl
set_option maxHeartbeats 4000000 in
set_option maxRecDepth 20000 in
theorem LogRoot_c (B g : Nat) (ds : List (List Int)) (n : Int) (w : World) (hl : LogAt B w g ds) (hz : ds.length ≤ 1048576) (ht : ShaTabs w) : Calls Tryd.prog 30 #[.pointer (some ⟨g, 0, none⟩), .int .i64 n] w (RootPost (if 0 ≤ n ∧ n ≤ (ds.length : Int) then some (rootB (ds.take n.toNat)) else none) w) := by
  obtain ⟨a, c, hc, hf, sd⟩ := hl.cell
  obtain ⟨z, hzz⟩ : ∃ z, z = ds.length := ⟨_, rfl⟩
  have HZ := Lib.hid hzz
  rw [← hzz] at hc hz ⊢
  clear hzz hl hf
  by_cases h0 : 0 ≤ n
  · have g0 : decide (n < 0) = false := decide_eq_false (by omega)
    have g0' : ¬ n < 0 := by omega
    obtain ⟨k, rfl⟩ : ∃ j : Nat, n = (j : Int) := ⟨n.toNat, by omega⟩
    by_cases h1 : (k : Int) ≤ (z : Int)
    · rw [if_pos ⟨h0, h1⟩, Int.toNat_natCast]
      have g1 : decide ((z : Int) < (k : Int)) = false := decide_eq_false (by omega)
      have g1n : decide (z < k) = false := decide_eq_false (by omega)
      have g1' : ¬ (z : Int) < (k : Int) := by omega
      have g1'' : ¬ z < k := by omega
      have lc := fun W => cutD_to W a z c k (by have := sd.le; have := HZ.out; omega)
      have lt : (ds.take k).length = k := by rw [List.length_take, ← HZ.out]; omega
      have c1 := root_c (ds.take k).length (ds.take k) (Nat.le_refl _) 63 a c w (by omega) (sd.take k) ht
      rw [lt, show rootH pairD (shaD []) 63 (ds.take k) = rootB (ds.take k) from rfl] at c1
      have dr : Dig (rootB (ds.take k)) := root_dig _ _ _ (sd.take k).dig
      obtain ⟨r, hr⟩ : ∃ r, r = rootB (ds.take k) := ⟨_, rfl⟩
      rw [← hr] at c1 dr ⊢
      clear hr lt sd h0 h1
      go_enter Tryd.func30, Tryd.ntmps30
      go_wp2_with fail
      refine c1.mono ?_; rintro e_ w2 ⟨rfl, hb2⟩
      clear c1
      have c2 := bytes_c r w2 dr
      go_wp2_with fail
      refine c2.mono ?_; rintro e_ w3 ⟨v, rfl, nv, hb3⟩
      clear c2
      go_wp2_with fail
      go_ret2
      exact ⟨v, rfl, nv.mono hb2.size, (fun h => by cases h), hb2.trans (hb3.mono hb2.size)⟩
    · rw [if_neg (fun h => h1 h.2)]
      have g1 : decide ((z : Int) < (k : Int)) = true := decide_eq_true (by omega)
      have g1n : decide (z < k) = true := decide_eq_true (by omega)
      have g1' : (z : Int) < (k : Int) := by omega
      have g1'' : z < k := by omega
      clear sd
      go_enter Tryd.func30, Tryd.ntmps30
      go_wp2_with fail
      go_ret2
      exact ⟨_, rfl, .nil _ _ _ _, fun _ => rfl, .refl _ _⟩
  · rw [if_neg (fun h => h0 h.1)]
    have g0 : decide (n < 0) = true := decide_eq_true (by omega)
    have g0' : n < 0 := by omega
    clear sd
    go_enter Tryd.func30, Tryd.ntmps30
    go_wp2_with fail
    go_ret2
    exact ⟨_, rfl, .nil _ _ _ _, fun _ => rfl, .refl _ _⟩
set_option maxHeartbeats 4000000 in
set_option maxRecDepth 20000 in
theorem LogProof_c (B g : Nat) (ds : List (List Int)) (n i : Int) (w : World) (hl : LogAt B w g ds) (hz : ds.length ≤ 1048576) (ht : ShaTabs w) : Calls Tryd.prog 63 #[.pointer (some ⟨g, 0, none⟩), .int .i64 n, .int .i64 i] w (OutsPost (if (0 ≤ n ∧ n ≤ (ds.length : Int)) ∧ 0 ≤ i ∧ i < n then some (pathB (ds.take n.toNat) i.toNat) else none) w) := by
  obtain ⟨a, c, hc, hf, sd⟩ := hl.cell
  obtain ⟨z, hzz⟩ : ∃ z, z = ds.length := ⟨_, rfl⟩
  have HZ := Lib.hid hzz
  rw [← hzz] at hc hz ⊢
  clear hzz hl hf
  by_cases h0 : 0 ≤ n
  · have g0 : decide (n < 0) = false := decide_eq_false (by omega)
    have g0' : ¬ n < 0 := by omega
    obtain ⟨k, rfl⟩ : ∃ j : Nat, n = (j : Int) := ⟨n.toNat, by omega⟩
    by_cases h1 : (k : Int) ≤ (z : Int)
    · have g1 : decide ((z : Int) < (k : Int)) = false := decide_eq_false (by omega)
      have g1n : decide (z < k) = false := decide_eq_false (by omega)
      have g1' : ¬ (z : Int) < (k : Int) := by omega
      have g1'' : ¬ z < k := by omega
      by_cases h2 : 0 ≤ i
      · have g2 : decide (i < 0) = false := decide_eq_false (by omega)
        have g2' : ¬ i < 0 := by omega
        obtain ⟨j, rfl⟩ : ∃ j : Nat, i = (j : Int) := ⟨i.toNat, by omega⟩
        by_cases h3 : (j : Int) < (k : Int)
        · rw [if_pos ⟨⟨h0, h1⟩, h2, h3⟩, Int.toNat_natCast, Int.toNat_natCast]
          have g3 : decide ((k : Int) ≤ (j : Int)) = false := decide_eq_false (by omega)
          have g3n : decide (k ≤ j) = false := decide_eq_false (by omega)
          have g3' : ¬ ((k : Int) ≤ (j : Int)) := by omega
          have g3'' : ¬ (k ≤ j) := by omega
          have lc := fun W => cutD_to W a z c k (by have := sd.le; have := HZ.out; omega)
          have lt : (ds.take k).length = k := by rw [List.length_take, ← HZ.out]; omega
          have c1 := path_c (ds.take k).length (ds.take k) (Nat.le_refl _) 63 j a c w (by omega) (by omega) (by omega) (sd.take k) ht
          unfold DigsPost at c1
          rw [lt] at c1
          rw [show pathH pairD (shaD []) 63 (ds.take k) j = pathB (ds.take k) j from rfl] at c1
          have hle := pathB_le (ds.take k) j
          obtain ⟨r, hr⟩ : ∃ r, r = pathB (ds.take k) j := ⟨_, rfl⟩
          rw [← hr] at c1 hle ⊢
          clear hr lt sd h0 h1 h2 h3
          go_enter Tryd.func63, Tryd.ntmps63
          go_wp2_with fail
          refine c1.mono ?_; rintro e_ w2 ⟨v, rfl, hv, hb2⟩
          obtain ⟨a3, c3, rfl, sd3⟩ := hv.sl
          have c4 := out_c a3 c3 r w2 sd3 (by omega)
          unfold OutPost at c4
          clear c1 hv sd3
          go_wp2_with fail
          refine c4.mono ?_; rintro e_ w4 ⟨v, rfl, hn4, hb4⟩
          clear c4
          go_wp2_with fail
          go_ret2
          exact ⟨v, rfl, hn4.mono hb2.size, hb2.trans (hb4.mono hb2.size)⟩
        · rw [if_neg (fun h => h3 h.2.2)]
          have g3 : decide ((k : Int) ≤ (j : Int)) = true := decide_eq_true (by omega)
          have g3n : decide (k ≤ j) = true := decide_eq_true (by omega)
          have g3' : ((k : Int) ≤ (j : Int)) := by omega
          have g3'' : (k ≤ j) := by omega
          clear sd
          go_enter Tryd.func63, Tryd.ntmps63
          go_wp2_with fail
          go_ret2
          exact ⟨_, rfl, .nil _ _, .refl _ _⟩
      · rw [if_neg (fun h => h2 h.2.1)]
        have g2 : decide (i < 0) = true := decide_eq_true (by omega)
        have g2' : i < 0 := by omega
        clear sd
        go_enter Tryd.func63, Tryd.ntmps63
        go_wp2_with fail
        go_ret2
        exact ⟨_, rfl, .nil _ _, .refl _ _⟩
    · rw [if_neg (fun h => h1 h.1.2)]
      have g1 : decide ((z : Int) < (k : Int)) = true := decide_eq_true (by omega)
      have g1n : decide (z < k) = true := decide_eq_true (by omega)
      have g1' : (z : Int) < (k : Int) := by omega
      have g1'' : z < k := by omega
      clear sd
      go_enter Tryd.func63, Tryd.ntmps63
      go_wp2_with fail
      go_ret2
      exact ⟨_, rfl, .nil _ _, .refl _ _⟩
  · rw [if_neg (fun h => h0 h.1.1)]
    have g0 : decide (n < 0) = true := decide_eq_true (by omega)
    have g0' : n < 0 := by omega
    clear sd
    go_enter Tryd.func63, Tryd.ntmps63
    go_wp2_with fail
    go_ret2
    exact ⟨_, rfl, .nil _ _, .refl _ _⟩
set_option maxHeartbeats 4000000 in
set_option maxRecDepth 20000 in
theorem LogGrowth_c (B g : Nat) (ds : List (List Int)) (n i : Int) (w : World) (hl : LogAt B w g ds) (hz : ds.length ≤ 1048576) (ht : ShaTabs w) : Calls Tryd.prog 38 #[.pointer (some ⟨g, 0, none⟩), .int .i64 i, .int .i64 n] w (OutsPost (if (0 ≤ n ∧ n ≤ (ds.length : Int)) ∧ 0 ≤ i ∧ i ≤ n then some (growB (ds.take n.toNat) i.toNat) else none) w) := by
  obtain ⟨a, c, hc, hf, sd⟩ := hl.cell
  obtain ⟨z, hzz⟩ : ∃ z, z = ds.length := ⟨_, rfl⟩
  have HZ := Lib.hid hzz
  rw [← hzz] at hc hz ⊢
  clear hzz hl hf
  by_cases h0 : 0 ≤ n
  · have g0 : decide (n < 0) = false := decide_eq_false (by omega)
    have g0' : ¬ n < 0 := by omega
    obtain ⟨k, rfl⟩ : ∃ j : Nat, n = (j : Int) := ⟨n.toNat, by omega⟩
    by_cases h1 : (k : Int) ≤ (z : Int)
    · have g1 : decide ((z : Int) < (k : Int)) = false := decide_eq_false (by omega)
      have g1n : decide (z < k) = false := decide_eq_false (by omega)
      have g1' : ¬ (z : Int) < (k : Int) := by omega
      have g1'' : ¬ z < k := by omega
      by_cases h2 : 0 ≤ i
      · have g2 : decide (i < 0) = false := decide_eq_false (by omega)
        have g2' : ¬ i < 0 := by omega
        obtain ⟨j, rfl⟩ : ∃ j : Nat, i = (j : Int) := ⟨i.toNat, by omega⟩
        by_cases h3 : (j : Int) ≤ (k : Int)
        · rw [if_pos ⟨⟨h0, h1⟩, h2, h3⟩, Int.toNat_natCast, Int.toNat_natCast]
          have g3 : decide ((k : Int) < (j : Int)) = false := decide_eq_false (by omega)
          have g3n : decide (k < j) = false := decide_eq_false (by omega)
          have g3' : ¬ ((k : Int) < (j : Int)) := by omega
          have g3'' : ¬ (k < j) := by omega
          have lc := fun W => cutD_to W a z c k (by have := sd.le; have := HZ.out; omega)
          have lt : (ds.take k).length = k := by rw [List.length_take, ← HZ.out]; omega
          have c1 := growth_c (ds.take k) j a c w (by omega) (sd.take k) ht
          unfold DigsPost at c1
          rw [lt] at c1
          skip
          have hle := growB_le (ds.take k) j
          obtain ⟨r, hr⟩ : ∃ r, r = growB (ds.take k) j := ⟨_, rfl⟩
          rw [← hr] at c1 hle ⊢
          clear hr lt sd h0 h1 h2 h3
          go_enter Tryd.func38, Tryd.ntmps38
          go_wp2_with fail
          refine c1.mono ?_; rintro e_ w2 ⟨v, rfl, hv, hb2⟩
          obtain ⟨a3, c3, rfl, sd3⟩ := hv.sl
          have c4 := out_c a3 c3 r w2 sd3 (by omega)
          unfold OutPost at c4
          clear c1 hv sd3
          go_wp2_with fail
          refine c4.mono ?_; rintro e_ w4 ⟨v, rfl, hn4, hb4⟩
          clear c4
          go_wp2_with fail
          go_ret2
          exact ⟨v, rfl, hn4.mono hb2.size, hb2.trans (hb4.mono hb2.size)⟩
        · rw [if_neg (fun h => h3 h.2.2)]
          have g3 : decide ((k : Int) < (j : Int)) = true := decide_eq_true (by omega)
          have g3n : decide (k < j) = true := decide_eq_true (by omega)
          have g3' : ((k : Int) < (j : Int)) := by omega
          have g3'' : (k < j) := by omega
          clear sd
          go_enter Tryd.func38, Tryd.ntmps38
          go_wp2_with fail
          go_ret2
          exact ⟨_, rfl, .nil _ _, .refl _ _⟩
      · rw [if_neg (fun h => h2 h.2.1)]
        have g2 : decide (i < 0) = true := decide_eq_true (by omega)
        have g2' : i < 0 := by omega
        clear sd
        go_enter Tryd.func38, Tryd.ntmps38
        go_wp2_with fail
        go_ret2
        exact ⟨_, rfl, .nil _ _, .refl _ _⟩
    · rw [if_neg (fun h => h1 h.1.2)]
      have g1 : decide ((z : Int) < (k : Int)) = true := decide_eq_true (by omega)
      have g1n : decide (z < k) = true := decide_eq_true (by omega)
      have g1' : (z : Int) < (k : Int) := by omega
      have g1'' : z < k := by omega
      clear sd
      go_enter Tryd.func38, Tryd.ntmps38
      go_wp2_with fail
      go_ret2
      exact ⟨_, rfl, .nil _ _, .refl _ _⟩
  · rw [if_neg (fun h => h0 h.1.1)]
    have g0 : decide (n < 0) = true := decide_eq_true (by omega)
    have g0' : n < 0 := by omega
    clear sd
    go_enter Tryd.func38, Tryd.ntmps38
    go_wp2_with fail
    go_ret2
    exact ⟨_, rfl, .nil _ _, .refl _ _⟩
/-- One entry more. -/
def AppPost (B g : Nat) (ds : List (List Int)) (d : List Int) (w : World) (e : Ending) (w' : World) : Prop :=
  e = .returned (.tuple #[.int .i64 (if 65536 ≤ ds.length then 0 else (ds.length : Int)), .int .i64 (if 65536 ≤ ds.length then 161 else 0)]) ∧ LogAt B w' g (if 65536 ≤ ds.length then ds else ds ++ [d]) ∧ Below B w w' ∧ KeepL w w'
set_option maxHeartbeats 16000000 in
set_option maxRecDepth 20000 in
theorem LogAppend_c (B g : Nat) (ds : List (List Int)) (ae : Option Addr) (ce : Nat) (xs : List Int) (w : World) (hl : LogAt B w g ds) (sx : Sl .u8 w ae ce xs) (ux : U8 xs) (hx : xs.length ≤ 140737488355328) (hB : B ≤ w.heap.size) (ht : ShaTabs w) :
    Calls Tryd.prog 28 #[.pointer (some ⟨g, 0, none⟩), .slice ae xs.length ce] w (AppPost B g ds (leafD xs) w) := by
  have hl0 := hl
  obtain ⟨v, hh, hv, hBg⟩ := hl
  obtain ⟨a, c, rfl, sd⟩ := hv.sl
  have cell := cell_of_row w g 0 _ _ (0, 0) hh
  replace cell : w.cell? ⟨g, 0, none⟩ = some (.slice a ds.length c) := cell
  obtain ⟨z, hz⟩ : ∃ z, z = ds.length := ⟨_, rfl⟩
  have HZ := Lib.hid hz
  unfold AppPost
  rw [← hz] at cell hh hv ⊢
  obtain ⟨d, hd⟩ : ∃ d, d = leafD xs := ⟨_, rfl⟩
  have dd : Dig d := by rw [hd]; exact shaD_dig _
  have c1 := fun W (hb : Below w.heap.size w W) => leafOf_c ae ce xs W (sx.below hb) ux hx (ht.below hb)
  rw [← hd] at c1 ⊢
  obtain ⟨n, hn⟩ : ∃ n, n = xs.length := ⟨_, rfl⟩
  rw [← hn] at c1 ⊢
  have glt : g < w.heap.size := (Array.getElem?_eq_some_iff.1 hh).1
  clear hz hd hn hx sd
  by_cases hfull : 65536 ≤ z
  · have g1 : decide ((65536 : Int) ≤ (z : Int)) = true := decide_eq_true (by omega)
    have g2 : decide (65536 ≤ z) = true := decide_eq_true hfull
    have g3 : (65536 : Int) ≤ (z : Int) := by omega
    simp only [hfull, if_true]
    clear hh hv
    go_enter Tryd.func28, Tryd.ntmps28
    go_wp2_with fail
    go_ret2
    exact ⟨rfl, hl0, .refl _ _, .refl _ _ _⟩
  · have g1 : decide ((65536 : Int) ≤ (z : Int)) = false := decide_eq_false (by omega)
    have g2 : decide (65536 ≤ z) = false := decide_eq_false hfull
    have g3 : ¬ (65536 : Int) ≤ (z : Int) := by omega
    have zlt : (z : Int) < 65536 := by omega
    simp only [hfull, if_false]
    clear hl0
    go_enter Tryd.func28, Tryd.ntmps28
    go_wp2_with fail
    refine wp_region_held_drew (S := fun W => True) (by kernel_rfl) (trivial) (fun hS => ?_)
    refine wpAnyH_take (i := 0) (v := ?_) rfl (by kernel_rfl) (by kernel_rfl) (by kernel_rfl) (fun _ _ _ h => h) (Or.inl ⟨by rfl, ?_⟩) hS ?_
    rotate_left
    · intro w _; go_simp; try with_reducible rfl
    simp only [List.getElem_toArray, List.getElem_cons_zero, List.getElem_cons_succ, Act.put, List.setIfInBounds_toArray, List.set_cons_zero, List.set_cons_succ]
    refine wpAnyH_take (i := 1) (v := ?_) rfl (by kernel_rfl) (by kernel_rfl) (by kernel_rfl) (fun _ _ _ h => h) (Or.inl ⟨by rfl, ?_⟩) hS ?_
    rotate_left
    · intro w _; go_simp; try with_reducible rfl
    simp only [List.getElem_toArray, List.getElem_cons_zero, List.getElem_cons_succ, Act.put, List.setIfInBounds_toArray, List.set_cons_zero, List.set_cons_succ]
    refine wpAnyH_take (i := 2) (v := ?_) rfl (by kernel_rfl) (by kernel_rfl) (by kernel_rfl) (fun _ _ _ h => h) (Or.inl ⟨by rfl, ?_⟩) hS ?_
    rotate_left
    · intro w _; go_simp; try with_reducible rfl
    simp only [List.getElem_toArray, List.getElem_cons_zero, List.getElem_cons_succ, Act.put, List.setIfInBounds_toArray, List.set_cons_zero, List.set_cons_succ]
    refine wpAnyH_take (i := 3) (v := ?_) rfl (by kernel_rfl) (by kernel_rfl) (by kernel_rfl) (fun _ _ _ h => h) (Or.inl ⟨by rfl, ?_⟩) hS ?_
    rotate_left
    · intro w _; go_simp; try with_reducible rfl
    simp only [List.getElem_toArray, List.getElem_cons_zero, List.getElem_cons_succ, Act.put, List.setIfInBounds_toArray, List.set_cons_zero, List.set_cons_succ]
    refine wpAnyH_take (i := 5) (v := ?_) rfl (by kernel_rfl) (by kernel_rfl) (by kernel_rfl) (fun _ _ _ h => h) (Or.inl ⟨by rfl, ?_⟩) hS ?_
    rotate_left
    · intro w _; go_simp; try with_reducible rfl
    simp only [List.getElem_toArray, List.getElem_cons_zero, List.getElem_cons_succ, Act.put, List.setIfInBounds_toArray, List.set_cons_zero, List.set_cons_succ]
    obtain ⟨W, hW⟩ : ∃ W, W = World.drew w := ⟨_, rfl⟩
    have hb0 : Below w.heap.size w W := by rw [hW]; exact below_drewN (.refl _ _) 1
    have hh0 : W.heap[g]? = some (.cells #[.slice a z c] 83 (0, 0)) := by rw [hW]; exact hh
    have hv0 : NewD B 64 W (.slice a z c) ds := by rw [hW]; exact NewD.keep hv (below_drewN (.refl _ _) 1)
    have cell0 : W.cell? ⟨g, 0, none⟩ = some (.slice a z c) := by rw [hW]; exact cell
    rw [← hW]
    clear hW hh hv cell hS
    have gl0 : g < W.heap.size := Nat.lt_of_lt_of_le glt hb0.size
    refine wpAnyH_ready (rs := [4, 6]) (by kernel_rfl) (by simp) ?_
    refine AllReadyH.cons rfl (fun K hK => ?_) (AllReadyH.cons rfl (fun K hK => ?_) AllReadyH.nil) <;> rw [if_pos (by rfl)] <;> simp only [List.getElem_toArray, List.getElem_cons_zero, List.getElem_cons_succ]
    · go_simp
      refine hK.out _ _ trivial (fun hS => ?_)
      refine wpAnyH_ready (rs := [6]) (by kernel_rfl) (by simp) ?_
      refine AllReadyH.cons rfl (fun K hK => ?_) AllReadyH.nil
      rw [if_pos (by rfl)]
      simp only [List.getElem_toArray, List.getElem_cons_zero, List.getElem_cons_succ]
      go_simp
      refine (c1 W hb0).mono ?_; rintro e_ w1 ⟨rfl, hx0⟩
      dsimp only
      refine hK.out _ _ trivial (fun hS => ?_)
      have hb1 := hb0.trans (hx0.mono hb0.size)
      have hv1 := hv0.keep hx0
      have hh1 := (hx0.block g gl0).trans hh0
      have cell1 : w1.cell? ⟨g, 0, none⟩ = some (.slice a z c) := cell_of_row w1 g 0 _ _ (0, 0) hh1
      have gl1 : g < w1.heap.size := Nat.lt_of_lt_of_le gl0 hx0.size
      clear hx0
      refine wpAnyH_ready (rs := [7]) (by kernel_rfl) (by simp) ?_
      refine AllReadyH.cons rfl (fun K hK => ?_) AllReadyH.nil
      rw [if_pos (by rfl)]
      simp only [List.getElem_toArray, List.getElem_cons_zero, List.getElem_cons_succ]
      refine wp_one_D 66 64 _ rfl Tryd.underlying66 infoD d dd rfl ?_
      intro w2 hk2 hs2 hx2
      refine hK.out _ _ trivial (fun hS => ?_)
      have hb2 := hb1.trans (hx2.mono hb1.size)
      have hv2 := hv1.keep hx2
      have hh2 := (hx2.block g gl1).trans hh1
      have cell2 : w2.cell? ⟨g, 0, none⟩ = some (.slice a z c) := cell_of_row w2 g 0 _ _ (0, 0) hh2
      have gl2 : g < w2.heap.size := Nat.lt_of_lt_of_le gl1 hx2.size
      have HS2 := Lib.hid hs2
      clear hs2 hx2 hv1 hh1 cell1 gl1
      refine wpAnyH_ready (rs := [8]) (by kernel_rfl) (by simp) ?_
      refine AllReadyH.cons rfl (fun K hK => ?_) AllReadyH.nil
      rw [if_pos (by rfl)]
      simp only [List.getElem_toArray, List.getElem_cons_zero, List.getElem_cons_succ]
      refine wp_append_newD _ _ 66 rfl B 64 (dval noDig) zcD Tryd.underlying66 infoD _ _ rfl hv2 w1.heap.size d dd rfl hk2 (by rw [← HZ.out]; omega) (Nat.le_trans hB hb2.size) ?_
      intro v3 w3 hv3 hg3 ho3
      refine hK.out _ _ trivial (fun hS => ?_)
      have gne : some g ≠ (Value.slice a z c).ownBlock := fun e => by
        have := NewD.heapT hv2 e.symm
        obtain ⟨cs, hc⟩ := this
        rw [hh2] at hc
        simp only [Option.some.injEq, Obj.cells.injEq] at hc
        exact absurd hc.2.1 (by decide)
      have hh3 := (hg3.block g gl2 gne).trans hh2
      have cell3 : w3.cell? ⟨g, 0, none⟩ = some (.slice a z c) := cell_of_row w3 g 0 _ _ (0, 0) hh3
      have fr3 : w3.frozen? ⟨g, 0, none⟩ = false := frozen_of_row w3 g 0 _ _ hh3
      have hB2 : Below B w w2 := hb2.mono hB
      have hB3 := hB2.grown hg3 (Nat.le_trans hB hb2.size) (fun q hq => (hv2.lt q hq).1)
      have k3 : KeepL w w3 := (KeepT.below hb2).trans (KeepT.grown hg3 (fun q hq hlt => by
        obtain ⟨cs, hc⟩ := NewD.heapT hv2 hq
        exact ⟨cs, _, _, hc, .inr rfl⟩))
      obtain ⟨a3, c3, rfl, -⟩ := hv3.sl
      have lds : (ds ++ [d]).length = z + 1 := by rw [List.length_append, ← HZ.out]; rfl
      rw [lds] at hv3 ⊢
      clear hv2 hh2 cell2 gl2 hk2 hg3 ho3 HS2 hb2 hb1 gne lds
      refine wpAnyH_take (i := 9) (v := ?_) rfl (by kernel_rfl) (by kernel_rfl) (by kernel_rfl) (fun _ _ _ h => h) (Or.inl ⟨by rfl, ?_⟩) hS ?_
      rotate_left
      · intro w _; go_simp; try with_reducible rfl
      simp only [List.getElem_toArray, List.getElem_cons_zero, List.getElem_cons_succ, Act.put, List.setIfInBounds_toArray, List.set_cons_zero, List.set_cons_succ]
      refine wpAnyH_take (i := 10) (v := ?_) rfl (by kernel_rfl) (by kernel_rfl) (by kernel_rfl) (fun _ _ _ h => h) (Or.inl ⟨by rfl, ?_⟩) hS ?_
      rotate_left
      · intro w _; go_simp; try with_reducible rfl
      simp only [List.getElem_toArray, List.getElem_cons_zero, List.getElem_cons_succ, Act.put, List.setIfInBounds_toArray, List.set_cons_zero, List.set_cons_succ]
      refine wpAnyH_ready (rs := [11]) (by kernel_rfl) (by simp) ?_
      refine AllReadyH.cons rfl (fun K hK => ?_) AllReadyH.nil
      rw [if_pos (by rfl)]
      simp only [List.getElem_toArray, List.getElem_cons_zero, List.getElem_cons_succ]
      go_simp
      refine hK.out _ _ trivial (fun hS => ?_)
      refine wpAnyH_done (by kernel_rfl) ?_ _
      have hh4 := heap_setCell_same w3 g 0 _ 83 (.slice a3 (z + 1) c3) hh3
      have gne3 : (Value.slice a3 (z + 1) c3).ownBlock ≠ some g := fun e => by
        obtain ⟨cs, hc⟩ := NewD.heapT hv3 e
        rw [hh3] at hc
        simp only [Option.some.injEq, Obj.cells.injEq] at hc
        exact absurd hc.2.1 (by decide)
      have hv4 := hv3.kept (grownBy_set w3 ⟨g, 0, none⟩ (.slice a3 (z + 1) c3)) (.inr gne3)
      have hB4 := hB3.setCell (p := ⟨g, 0, none⟩) hBg (.slice a3 (z + 1) c3)
      have k4 : KeepL w (w3.setCell ⟨g, 0, none⟩ (.slice a3 (z + 1) c3)) := k3.trans (KeepT.grown (grownBy_set w3 ⟨g, 0, none⟩ (.slice a3 (z + 1) c3)) (fun q hq _ => by
        cases hq
        exact ⟨_, _, _, hh3, .inl rfl⟩))
      have cell4 : (w3.setCell ⟨g, 0, none⟩ (.slice a3 (z + 1) c3)).cell? ⟨g, 0, none⟩ = some (.slice a3 (z + 1) c3) := cell_of_row _ g 0 _ _ (0, 0) hh4
      clear hS cell3 fr3 hh3 hv3 hB3 k3 gne3
      go_wp2_with fail
      go_ret2
      exact ⟨rfl, ⟨_, hh4, hv4, hBg⟩, hB4, k4⟩
    · go_simp
      refine (c1 W hb0).mono ?_; rintro e_ w1 ⟨rfl, hx0⟩
      dsimp only
      refine hK.out _ _ trivial (fun hS => ?_)
      have hb1 := hb0.trans (hx0.mono hb0.size)
      have hv1 := hv0.keep hx0
      have hh1 := (hx0.block g gl0).trans hh0
      have cell1 : w1.cell? ⟨g, 0, none⟩ = some (.slice a z c) := cell_of_row w1 g 0 _ _ (0, 0) hh1
      have gl1 : g < w1.heap.size := Nat.lt_of_lt_of_le gl0 hx0.size
      clear hx0
      refine wpAnyH_ready (rs := [4, 7]) (by kernel_rfl) (by simp) ?_
      refine AllReadyH.cons rfl (fun K hK => ?_) (AllReadyH.cons rfl (fun K hK => ?_) AllReadyH.nil) <;> rw [if_pos (by rfl)] <;> simp only [List.getElem_toArray, List.getElem_cons_zero, List.getElem_cons_succ]
      · go_simp
        refine hK.out _ _ trivial (fun hS => ?_)
        refine wpAnyH_ready (rs := [7]) (by kernel_rfl) (by simp) ?_
        refine AllReadyH.cons rfl (fun K hK => ?_) AllReadyH.nil
        rw [if_pos (by rfl)]
        simp only [List.getElem_toArray, List.getElem_cons_zero, List.getElem_cons_succ]
        refine wp_one_D 66 64 _ rfl Tryd.underlying66 infoD d dd rfl ?_
        intro w2 hk2 hs2 hx2
        refine hK.out _ _ trivial (fun hS => ?_)
        have hb2 := hb1.trans (hx2.mono hb1.size)
        have hv2 := hv1.keep hx2
        have hh2 := (hx2.block g gl1).trans hh1
        have cell2 : w2.cell? ⟨g, 0, none⟩ = some (.slice a z c) := cell_of_row w2 g 0 _ _ (0, 0) hh2
        have gl2 : g < w2.heap.size := Nat.lt_of_lt_of_le gl1 hx2.size
        have HS2 := Lib.hid hs2
        clear hs2 hx2 hv1 hh1 cell1 gl1
        refine wpAnyH_ready (rs := [8]) (by kernel_rfl) (by simp) ?_
        refine AllReadyH.cons rfl (fun K hK => ?_) AllReadyH.nil
        rw [if_pos (by rfl)]
        simp only [List.getElem_toArray, List.getElem_cons_zero, List.getElem_cons_succ]
        refine wp_append_newD _ _ 66 rfl B 64 (dval noDig) zcD Tryd.underlying66 infoD _ _ rfl hv2 w1.heap.size d dd rfl hk2 (by rw [← HZ.out]; omega) (Nat.le_trans hB hb2.size) ?_
        intro v3 w3 hv3 hg3 ho3
        refine hK.out _ _ trivial (fun hS => ?_)
        have gne : some g ≠ (Value.slice a z c).ownBlock := fun e => by
          have := NewD.heapT hv2 e.symm
          obtain ⟨cs, hc⟩ := this
          rw [hh2] at hc
          simp only [Option.some.injEq, Obj.cells.injEq] at hc
          exact absurd hc.2.1 (by decide)
        have hh3 := (hg3.block g gl2 gne).trans hh2
        have cell3 : w3.cell? ⟨g, 0, none⟩ = some (.slice a z c) := cell_of_row w3 g 0 _ _ (0, 0) hh3
        have fr3 : w3.frozen? ⟨g, 0, none⟩ = false := frozen_of_row w3 g 0 _ _ hh3
        have hB2 : Below B w w2 := hb2.mono hB
        have hB3 := hB2.grown hg3 (Nat.le_trans hB hb2.size) (fun q hq => (hv2.lt q hq).1)
        have k3 : KeepL w w3 := (KeepT.below hb2).trans (KeepT.grown hg3 (fun q hq hlt => by
          obtain ⟨cs, hc⟩ := NewD.heapT hv2 hq
          exact ⟨cs, _, _, hc, .inr rfl⟩))
        obtain ⟨a3, c3, rfl, -⟩ := hv3.sl
        have lds : (ds ++ [d]).length = z + 1 := by rw [List.length_append, ← HZ.out]; rfl
        rw [lds] at hv3 ⊢
        clear hv2 hh2 cell2 gl2 hk2 hg3 ho3 HS2 hb2 hb1 gne lds
        refine wpAnyH_take (i := 9) (v := ?_) rfl (by kernel_rfl) (by kernel_rfl) (by kernel_rfl) (fun _ _ _ h => h) (Or.inl ⟨by rfl, ?_⟩) hS ?_
        rotate_left
        · intro w _; go_simp; try with_reducible rfl
        simp only [List.getElem_toArray, List.getElem_cons_zero, List.getElem_cons_succ, Act.put, List.setIfInBounds_toArray, List.set_cons_zero, List.set_cons_succ]
        refine wpAnyH_take (i := 10) (v := ?_) rfl (by kernel_rfl) (by kernel_rfl) (by kernel_rfl) (fun _ _ _ h => h) (Or.inl ⟨by rfl, ?_⟩) hS ?_
        rotate_left
        · intro w _; go_simp; try with_reducible rfl
        simp only [List.getElem_toArray, List.getElem_cons_zero, List.getElem_cons_succ, Act.put, List.setIfInBounds_toArray, List.set_cons_zero, List.set_cons_succ]
        refine wpAnyH_ready (rs := [11]) (by kernel_rfl) (by simp) ?_
        refine AllReadyH.cons rfl (fun K hK => ?_) AllReadyH.nil
        rw [if_pos (by rfl)]
        simp only [List.getElem_toArray, List.getElem_cons_zero, List.getElem_cons_succ]
        go_simp
        refine hK.out _ _ trivial (fun hS => ?_)
        refine wpAnyH_done (by kernel_rfl) ?_ _
        have hh4 := heap_setCell_same w3 g 0 _ 83 (.slice a3 (z + 1) c3) hh3
        have gne3 : (Value.slice a3 (z + 1) c3).ownBlock ≠ some g := fun e => by
          obtain ⟨cs, hc⟩ := NewD.heapT hv3 e
          rw [hh3] at hc
          simp only [Option.some.injEq, Obj.cells.injEq] at hc
          exact absurd hc.2.1 (by decide)
        have hv4 := hv3.kept (grownBy_set w3 ⟨g, 0, none⟩ (.slice a3 (z + 1) c3)) (.inr gne3)
        have hB4 := hB3.setCell (p := ⟨g, 0, none⟩) hBg (.slice a3 (z + 1) c3)
        have k4 : KeepL w (w3.setCell ⟨g, 0, none⟩ (.slice a3 (z + 1) c3)) := k3.trans (KeepT.grown (grownBy_set w3 ⟨g, 0, none⟩ (.slice a3 (z + 1) c3)) (fun q hq _ => by
          cases hq
          exact ⟨_, _, _, hh3, .inl rfl⟩))
        have cell4 : (w3.setCell ⟨g, 0, none⟩ (.slice a3 (z + 1) c3)).cell? ⟨g, 0, none⟩ = some (.slice a3 (z + 1) c3) := cell_of_row _ g 0 _ _ (0, 0) hh4
        clear hS cell3 fr3 hh3 hv3 hB3 k3 gne3
        go_wp2_with fail
        go_ret2
        exact ⟨rfl, ⟨_, hh4, hv4, hBg⟩, hB4, k4⟩
      · refine wp_one_D 66 64 _ rfl Tryd.underlying66 infoD d dd rfl ?_
        intro w2 hk2 hs2 hx2
        refine hK.out _ _ trivial (fun hS => ?_)
        have hb2 := hb1.trans (hx2.mono hb1.size)
        have hv2 := hv1.keep hx2
        have hh2 := (hx2.block g gl1).trans hh1
        have cell2 : w2.cell? ⟨g, 0, none⟩ = some (.slice a z c) := cell_of_row w2 g 0 _ _ (0, 0) hh2
        have gl2 : g < w2.heap.size := Nat.lt_of_lt_of_le gl1 hx2.size
        have HS2 := Lib.hid hs2
        clear hs2 hx2 hv1 hh1 cell1 gl1
        refine wpAnyH_ready (rs := [4]) (by kernel_rfl) (by simp) ?_
        refine AllReadyH.cons rfl (fun K hK => ?_) AllReadyH.nil
        rw [if_pos (by rfl)]
        simp only [List.getElem_toArray, List.getElem_cons_zero, List.getElem_cons_succ]
        go_simp
        refine hK.out _ _ trivial (fun hS => ?_)
        refine wpAnyH_ready (rs := [8]) (by kernel_rfl) (by simp) ?_
        refine AllReadyH.cons rfl (fun K hK => ?_) AllReadyH.nil
        rw [if_pos (by rfl)]
        simp only [List.getElem_toArray, List.getElem_cons_zero, List.getElem_cons_succ]
        refine wp_append_newD _ _ 66 rfl B 64 (dval noDig) zcD Tryd.underlying66 infoD _ _ rfl hv2 w1.heap.size d dd rfl hk2 (by rw [← HZ.out]; omega) (Nat.le_trans hB hb2.size) ?_
        intro v3 w3 hv3 hg3 ho3
        refine hK.out _ _ trivial (fun hS => ?_)
        have gne : some g ≠ (Value.slice a z c).ownBlock := fun e => by
          have := NewD.heapT hv2 e.symm
          obtain ⟨cs, hc⟩ := this
          rw [hh2] at hc
          simp only [Option.some.injEq, Obj.cells.injEq] at hc
          exact absurd hc.2.1 (by decide)
        have hh3 := (hg3.block g gl2 gne).trans hh2
        have cell3 : w3.cell? ⟨g, 0, none⟩ = some (.slice a z c) := cell_of_row w3 g 0 _ _ (0, 0) hh3
        have fr3 : w3.frozen? ⟨g, 0, none⟩ = false := frozen_of_row w3 g 0 _ _ hh3
        have hB2 : Below B w w2 := hb2.mono hB
        have hB3 := hB2.grown hg3 (Nat.le_trans hB hb2.size) (fun q hq => (hv2.lt q hq).1)
        have k3 : KeepL w w3 := (KeepT.below hb2).trans (KeepT.grown hg3 (fun q hq hlt => by
          obtain ⟨cs, hc⟩ := NewD.heapT hv2 hq
          exact ⟨cs, _, _, hc, .inr rfl⟩))
        obtain ⟨a3, c3, rfl, -⟩ := hv3.sl
        have lds : (ds ++ [d]).length = z + 1 := by rw [List.length_append, ← HZ.out]; rfl
        rw [lds] at hv3 ⊢
        clear hv2 hh2 cell2 gl2 hk2 hg3 ho3 HS2 hb2 hb1 gne lds
        refine wpAnyH_take (i := 9) (v := ?_) rfl (by kernel_rfl) (by kernel_rfl) (by kernel_rfl) (fun _ _ _ h => h) (Or.inl ⟨by rfl, ?_⟩) hS ?_
        rotate_left
        · intro w _; go_simp; try with_reducible rfl
        simp only [List.getElem_toArray, List.getElem_cons_zero, List.getElem_cons_succ, Act.put, List.setIfInBounds_toArray, List.set_cons_zero, List.set_cons_succ]
        refine wpAnyH_take (i := 10) (v := ?_) rfl (by kernel_rfl) (by kernel_rfl) (by kernel_rfl) (fun _ _ _ h => h) (Or.inl ⟨by rfl, ?_⟩) hS ?_
        rotate_left
        · intro w _; go_simp; try with_reducible rfl
        simp only [List.getElem_toArray, List.getElem_cons_zero, List.getElem_cons_succ, Act.put, List.setIfInBounds_toArray, List.set_cons_zero, List.set_cons_succ]
        refine wpAnyH_ready (rs := [11]) (by kernel_rfl) (by simp) ?_
        refine AllReadyH.cons rfl (fun K hK => ?_) AllReadyH.nil
        rw [if_pos (by rfl)]
        simp only [List.getElem_toArray, List.getElem_cons_zero, List.getElem_cons_succ]
        go_simp
        refine hK.out _ _ trivial (fun hS => ?_)
        refine wpAnyH_done (by kernel_rfl) ?_ _
        have hh4 := heap_setCell_same w3 g 0 _ 83 (.slice a3 (z + 1) c3) hh3
        have gne3 : (Value.slice a3 (z + 1) c3).ownBlock ≠ some g := fun e => by
          obtain ⟨cs, hc⟩ := NewD.heapT hv3 e
          rw [hh3] at hc
          simp only [Option.some.injEq, Obj.cells.injEq] at hc
          exact absurd hc.2.1 (by decide)
        have hv4 := hv3.kept (grownBy_set w3 ⟨g, 0, none⟩ (.slice a3 (z + 1) c3)) (.inr gne3)
        have hB4 := hB3.setCell (p := ⟨g, 0, none⟩) hBg (.slice a3 (z + 1) c3)
        have k4 : KeepL w (w3.setCell ⟨g, 0, none⟩ (.slice a3 (z + 1) c3)) := k3.trans (KeepT.grown (grownBy_set w3 ⟨g, 0, none⟩ (.slice a3 (z + 1) c3)) (fun q hq _ => by
          cases hq
          exact ⟨_, _, _, hh3, .inl rfl⟩))
        have cell4 : (w3.setCell ⟨g, 0, none⟩ (.slice a3 (z + 1) c3)).cell? ⟨g, 0, none⟩ = some (.slice a3 (z + 1) c3) := cell_of_row _ g 0 _ _ (0, 0) hh4
        clear hS cell3 fr3 hh3 hv3 hB3 k3 gne3
        go_wp2_with fail
        go_ret2
        exact ⟨rfl, ⟨_, hh4, hv4, hBg⟩, hB4, k4⟩
end Go.Proofs.YtmbifokiebjmmaaDoor
