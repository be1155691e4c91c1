/- Rows of the call's own whose places are slices: how they read, and append. -/
import Derived.Test.YtnlmkikaaifcmaaBaseB
set_option linter.unusedVariables false
set_option linter.unusedSimpArgs false
namespace Go.Sg
open Go.RowKit

/-- A slice of slices in the call's own memory: nil, or at the head of a row from block B on. -/
def NewV (B : Nat) (E : TypeId) (w : World) (v : Value) (vs : List Value) : Prop :=
  (v = .slice none 0 0 ∧ vs = []) ∨
  ∃ g cap cs, v = .slice (some ⟨g, 0, none⟩) vs.length cap ∧ B ≤ g ∧ w.heap[g]? = some (.cells cs E (0, 0)) ∧ vs.length ≤ cap ∧ cap ≤ cs.size ∧ cap ≤ 9223372036854775807 ∧ cs.toList.take vs.length = vs
section
variable {B : Nat} {E : TypeId} {w : World} {v : Value} {vs : List Value}
theorem NewV.nil (B : Nat) (E : TypeId) (w : World) : NewV B E w (.slice none 0 0) [] := .inl ⟨rfl, rfl⟩
theorem NewV.mono {B' : Nat} (h : NewV B E w v vs) (hB : B' ≤ B) : NewV B' E w v vs := by
  rcases h with h | ⟨g, cap, cs, hv, hg, r⟩
  · exact .inl h
  · exact .inr ⟨g, cap, cs, hv, by omega, r⟩
theorem NewV.sl (h : NewV B E w v vs) : ∃ a cap, v = .slice a vs.length cap := by
  rcases h with ⟨rfl, rfl⟩ | ⟨g, cap, cs, hv, _⟩
  · exact ⟨none, 0, rfl⟩
  · exact ⟨_, cap, hv⟩
theorem NewV.max (h : NewV B E w v vs) : vs.length ≤ 9223372036854775807 := by
  rcases h with ⟨rfl, rfl⟩ | ⟨g, cap, cs, hv, _, _, h1, _, h2, _⟩
  · simp
  · omega
theorem NewV.cell {a : Option Addr} {n cap : Nat} (h : NewV B E w (.slice a n cap) vs) (j : Nat) (hj : j < vs.length) : ∃ g, a = some ⟨g, 0, none⟩ ∧ B ≤ g ∧ w.cell? ⟨g, j, none⟩ = some vs[j] := by
  rcases h with ⟨_, rfl⟩ | ⟨g, cp, cs, hv, hg, hh, h1, h2, h3, h4⟩
  · simp at hj
  · simp only [Value.slice.injEq] at hv
    refine ⟨g, hv.1, hg, ?_⟩
    rw [cell_of_row w g j cs E (0, 0) hh]
    have e : cs.toList[j]? = (cs.toList.take vs.length)[j]? := by rw [List.getElem?_take, if_pos hj]
    rw [← Array.getElem?_toList, e, h4]
    simp [hj]
theorem NewV.kept {w' : World} {row : Option Nat} (h : NewV B E w v vs) (hg : w.grownBy w' row) (hne : v.ownBlock = none ∨ v.ownBlock ≠ row) : NewV B E w' v vs := by
  rcases h with h | ⟨g, cap, cs, rfl, hb, hh, r⟩
  · exact .inl h
  · refine .inr ⟨g, cap, cs, rfl, hb, ?_, r⟩
    rw [hg.block g (Array.getElem?_eq_some_iff.1 hh).1 (by simpa [Value.ownBlock] using hne)]
    exact hh
theorem NewV.below {w' : World} {B' : Nat} (h : NewV B E w v vs) (hb : Below B' w w') (hlt : ∀ g, v.ownBlock = some g → g < B') : NewV B E w' v vs := by
  rcases h with h | ⟨g, cap, cs, rfl, hbg, hh, r⟩
  · exact .inl h
  · exact .inr ⟨g, cap, cs, rfl, hbg, (hb.block g (hlt g rfl)).trans hh, r⟩
theorem NewV.lt (h : NewV B E w v vs) : ∀ g, v.ownBlock = some g → B ≤ g ∧ g < w.heap.size := by
  intro g hg
  rcases h with ⟨rfl, _⟩ | ⟨g', cap, cs, rfl, hbg, hh, _⟩
  · simp [Value.ownBlock] at hg
  · simp [Value.ownBlock] at hg
    subst hg
    exact ⟨hbg, (Array.getElem?_eq_some_iff.1 hh).1⟩
theorem NewV.keep {w' : World} (h : NewV B E w v vs) (hb : Below w.heap.size w w') : NewV B E w' v vs := h.below hb fun g hg => (h.lt g hg).2
theorem NewV.alloc (h : NewV B E w v vs) (o : Obj) : NewV B E (w.alloc o) v vs := h.kept (World.grownBy_alloc w o none) (by cases hv : v.ownBlock <;> simp)
end
theorem one_slice {v : Value} (h : ∃ a n c, v = .slice a n c) : v.oneCell' = true := by obtain ⟨a, n, c, rfl⟩ := h; rfl

theorem run_append_newV {P : Program} (w : World) (B : Nat) (t ty e : TypeId) (bytes : Nat) (ht : P.underlying t = some (.slice e)) (hi : (P.info? e).map (fun i => (i.zero, i.size, i.bytes)) = some (some (.slice none 0 0), 1, bytes))
    (v : Value) (vs : List Value) (hv : NewV B e w v vs) (a : Addr) (c : Nat) (u : Value) (hone : ∃ a n c, u = .slice a n c) (hu : w.cell? a = some u) (hm : vs.length + 1 ≤ 9223372036854775807) (hbytes : (vs.length + 1) * bytes ≤ 140737488355328) (hB : B ≤ w.heap.size) :
    ∃ v' w', (Builtin.append_ #[t, t] ty #[v, .slice (some a) 1 c]).run P w = .ok v' w' ∧ NewV B e w' v' (vs ++ [u]) ∧ w.grownBy w' v.ownBlock ∧ (v'.ownBlock = v.ownBlock ∨ ∃ g, v'.ownBlock = some g ∧ w.heap.size ≤ g) := by
  obtain ⟨i, hi0, hz, hs, hby⟩ : ∃ i, P.info? e = some i ∧ i.zero = some (.slice none 0 0) ∧ i.size = 1 ∧ i.bytes = bytes := info_parts hi
  have hnews : ∀ (j : Nat) (x : Value), [u][j]? = some x → w.cell? (a.add j) = some x := by
    intro j x hx
    have hj : j = 0 := by
      have := (List.getElem?_eq_some_iff.1 hx).1
      simp at this; exact this
    subst hj
    have e0 : a.add 0 = a := by
      obtain ⟨b, off, sp⟩ := a
      cases sp <;> simp [Addr.add]
    rw [e0, hu]
    simpa using hx
  have h1 : ∀ x ∈ [u], x.oneCell' = true := by
    intro x hx
    rw [List.mem_singleton] at hx
    rw [hx]; exact one_slice hone
  have grown : ∀ (old : Nat), old < vs.length + 1 → ∀ (row : Option Nat),
      NewV B e (w.drew.alloc (.cells (vs.toArray ++ [u].toArray ++ Builtin.zeroCells (Value.cells (.slice none 0 0)) (grownCap w (vs.length + 1) old e - (vs.length + 1))) e))
        (.slice (some ⟨w.heap.size, 0, none⟩) (vs.length + 1) (grownCap w (vs.length + 1) old e)) (vs ++ [u]) ∧
      w.grownBy (w.drew.alloc (.cells (vs.toArray ++ [u].toArray ++ Builtin.zeroCells (Value.cells (.slice none 0 0)) (grownCap w (vs.length + 1) old e - (vs.length + 1))) e)) row := by
    intro old ho row
    have hge := grownCap_ge w (vs.length + 1) old e
    have hcm : grownCap w (vs.length + 1) old e ≤ maxLen := grownCap_le_maxLen w (vs.length + 1) old e (by unfold maxLen; omega)
    unfold maxLen at hcm
    refine ⟨.inr ⟨w.heap.size, grownCap w (vs.length + 1) old e, _, by simp, hB, Go.heap_alloc_new w.drew _, by simp; omega, ?_, by omega, ?_⟩, ⟨rfl, rfl, rfl, by simp, fun j hj _ => Below.heap_alloc w.drew _ j hj⟩⟩
    · simp only [Array.size_append, List.size_toArray, size_zeroCells]
      rw [show (Value.cells (.slice none 0 0)).size = 1 from rfl]
      simp
      omega
    · simp only [Array.toList_append, List.append_assoc, List.length_append]
      rw [← List.append_assoc]
      apply List.take_left'
      simp
  rcases hv with ⟨rfl, rfl⟩ | ⟨g, cap, cs, rfl, hbg, hh, hnc, hcs, hcm, htake⟩
  · have hr := run_append_nil (P := P) w t ty e i (.slice none 0 0) ht hi0 hz a 1 c [u] (by simp [hs]) hnews (by omega) (by simp at hm; omega) (by rw [hby]; simp at hbytes; omega)
    have hgr := grown 0 (by simp) (Value.ownBlock (.slice none 0 0))
    simp only [List.length_nil, Nat.zero_add, Array.empty_append, List.nil_append] at hgr ⊢
    exact ⟨_, _, hr, hgr.1, hgr.2, .inr ⟨_, rfl, Nat.le_refl _⟩⟩
  · by_cases hroom : vs.length + 1 ≤ cap
    · have hr := run_append_room (P := P) w t ty e i ht hi0 g vs.length cap cs hh a 1 c [u] (by simp [hs]) hnews h1 hroom (by simp [hs]; omega)
      refine ⟨_, _, hr, .inr ⟨g, cap, _, by simp, hbg, setRow_heap w g cs _ e _ hh, by simpa using hroom, ?_, hcm, ?_⟩, ⟨rfl, rfl, rfl, by simp, fun j _ hk => setRow_other w g j _ (fun ee => hk (by simp [Value.ownBlock, ee]))⟩, .inl rfl⟩
      · simp [hs]; omega
      · simp only [hs, Nat.mul_one, List.length_append]
        rw [htake]
        apply List.take_left'
        simp
    · have holds : ∀ (j : Nat) (x : Value), vs[j]? = some x → w.cell? ((⟨g, 0, none⟩ : Addr).add j) = some x := by
        intro j x hx
        have hadd : (⟨g, 0, none⟩ : Addr).add j = ⟨g, j, none⟩ := by unfold Addr.add; split <;> simp_all
        rw [hadd, cell_of_row w g j cs e (0, 0) hh]
        rw [← htake, List.getElem?_take] at hx
        split at hx
        · simpa using hx
        · cases hx
      have hr := run_append_grow (P := P) w t ty e i (.slice none 0 0) ht hi0 hz ⟨g, 0, none⟩ vs.length cap vs (by simp [hs]) holds a 1 c [u] (by simp [hs]) hnews (by omega) (by omega) (growslice_fits (by omega) (by rw [hby]; exact hbytes))
      have hgr := grown cap (by omega) (Value.ownBlock (.slice (some ⟨g, 0, none⟩) vs.length cap))
      exact ⟨_, _, hr, hgr.1, hgr.2, .inr ⟨_, rfl, Nat.le_refl _⟩⟩

theorem wpList_append_newV {P : Program} (w : World) {ops : Array Oper} {rest : List Oper} {o : Oper} {a : Act} {Q : Exit → Act → World → Prop} (hgd : o.guard = none) (s x : Operand) (t : TypeId)
    (ho : o.op = .call { callee := .builtin .append, args := #[s, x], argTypes := #[t, t] }) (B : Nat) (e : TypeId) (bytes : Nat) (ht : P.underlying t = some (.slice e))
    (hi : (P.info? e).map (fun i => (i.zero, i.size, i.bytes)) = some (some (.slice none 0 0), 1, bytes)) (v : Value) (vs : List Value) (hs : a.eval s = v) (hv : NewV B e w v vs)
    (ad : Addr) (c : Nat) (u : Value) (hone : ∃ a n c, u = .slice a n c) (hx : a.eval x = .slice (some ad) 1 c) (hu : w.cell? ad = some u) (hm : vs.length + 1 ≤ 9223372036854775807) (hbytes : (vs.length + 1) * bytes ≤ 140737488355328) (hB : B ≤ w.heap.size)
    (h : ∀ v' w', NewV B e w' v' (vs ++ [u]) → w.grownBy w' v.ownBlock → (v'.ownBlock = v.ownBlock ∨ ∃ g, v'.ownBlock = some g ∧ w.heap.size ≤ g) → wpList P ops Q rest (a.put o.dst v') w') : wpList P ops Q (o :: rest) a w := by
  refine wpList_plain hgd fun K hK => ?_
  obtain ⟨v', w', hr, h2, h3, h4⟩ := run_append_newV (P := P) w B t o.type e bytes ht hi v vs hv ad c u hone hu hm hbytes hB
  unfold Oper.wp execOp
  simp only [ho, resolve, invoke, builtin, Sem.run_bind, Sem.run_pure, Result.andThen_ok, List.map_toArray, List.map_cons, List.map_nil, hs, hx, hr]
  exact hK _ _ (h v' w' h2 h3 h4)
theorem cell_new1 (w : World) (E : TypeId) (u : Value) (z : Nat × Nat) : (w.alloc (.cells #[u] E z)).cell? ⟨w.heap.size, 0, none⟩ = some u := by
  have h : (w.alloc (.cells #[u] E z)).heap[w.heap.size]? = some (.cells #[u] E z) := by
    show (w.heap.push _)[w.heap.size]? = _
    simp
  rw [cell_of_row (w.alloc (.cells #[u] E z)) w.heap.size 0 _ E z h]; rfl
end Go.Sg
