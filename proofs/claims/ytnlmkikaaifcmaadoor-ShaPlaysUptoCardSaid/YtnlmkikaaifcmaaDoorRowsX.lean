/- Rows of the call's own whose places are values of one cell: append. (Printed by gen_rowsx.py.) -/
import Derived.Test.YtnlmkikaaifcmaaDoorRowsB
set_option linter.unusedVariables false
set_option linter.unusedSimpArgs false
namespace Go.Sg
open Go.RowKit

theorem run_append_newX {P : Program} (w : World) (B : Nat) (t ty e : TypeId) (bytes : Nat) (z : Value) (hz1 : z.cells.size = 1) (ht : P.underlying t = some (.slice e)) (hi : (P.info? e).map (fun i => (i.zero, i.size, i.bytes)) = some (some z, 1, bytes))
    (v : Value) (vs : List Value) (hv : NewV B e w v vs) (a : Addr) (c : Nat) (u : Value) (hone : u.oneCell' = true) (hu : w.cell? a = some u) (hm : vs.length + 1 ≤ 9223372036854775807) (hbytes : (vs.length + 1) * bytes ≤ 140737488355328) (hB : B ≤ w.heap.size) :
    ∃ v' w', (Builtin.append_ #[t, t] ty #[v, .slice (some a) 1 c]).run P w = .ok v' w' ∧ NewV B e w' v' (vs ++ [u]) ∧ w.grownBy w' v.ownBlock ∧ (v'.ownBlock = v.ownBlock ∨ ∃ g, v'.ownBlock = some g ∧ w.heap.size ≤ g) := by
  obtain ⟨i, hi0, hz, hs, hby⟩ : ∃ i, P.info? e = some i ∧ i.zero = some z ∧ i.size = 1 ∧ i.bytes = bytes := info_parts hi
  have hnews : ∀ (j : Nat) (x : Value), [u][j]? = some x → w.cell? (a.add j) = some x := by
    intro j x hx
    have hj : j = 0 := by
      have := (List.getElem?_eq_some_iff.1 hx).1
      simp at this; exact this
    subst hj
    have e0 : a.add 0 = a := by
      obtain ⟨b, off, sp⟩ := a
      cases sp <;> simp [Addr.add]
    rw [e0, hu]
    simpa using hx
  have h1 : ∀ x ∈ [u], x.oneCell' = true := by
    intro x hx
    rw [List.mem_singleton] at hx
    rw [hx]; exact hone
  have grown : ∀ (old : Nat), old < vs.length + 1 → ∀ (row : Option Nat),
      NewV B e (w.drew.alloc (.cells (vs.toArray ++ [u].toArray ++ Builtin.zeroCells (Value.cells z) (grownCap w (vs.length + 1) old e - (vs.length + 1))) e))
        (.slice (some ⟨w.heap.size, 0, none⟩) (vs.length + 1) (grownCap w (vs.length + 1) old e)) (vs ++ [u]) ∧
      w.grownBy (w.drew.alloc (.cells (vs.toArray ++ [u].toArray ++ Builtin.zeroCells (Value.cells z) (grownCap w (vs.length + 1) old e - (vs.length + 1))) e)) row := by
    intro old ho row
    have hge := grownCap_ge w (vs.length + 1) old e
    have hcm : grownCap w (vs.length + 1) old e ≤ maxLen := grownCap_le_maxLen w (vs.length + 1) old e (by unfold maxLen; omega)
    unfold maxLen at hcm
    refine ⟨.inr ⟨w.heap.size, grownCap w (vs.length + 1) old e, _, by simp, hB, Go.heap_alloc_new w.drew _, by simp; omega, ?_, by omega, ?_⟩, ⟨rfl, rfl, rfl, by simp, fun j hj _ => Below.heap_alloc w.drew _ j hj⟩⟩
    · simp only [Array.size_append, List.size_toArray, size_zeroCells]
      rw [hz1]
      simp
      omega
    · simp only [Array.toList_append, List.append_assoc, List.length_append]
      rw [← List.append_assoc]
      apply List.take_left'
      simp
  rcases hv with ⟨rfl, rfl⟩ | ⟨g, cap, cs, rfl, hbg, hh, hnc, hcs, hcm, htake⟩
  · have hr := run_append_nil (P := P) w t ty e i z ht hi0 hz a 1 c [u] (by simp [hs]) hnews (by omega) (by simp at hm; omega) (by rw [hby]; simp at hbytes; omega)
    have hgr := grown 0 (by simp) (Value.ownBlock (.slice none 0 0))
    simp only [List.length_nil, Nat.zero_add, Array.empty_append, List.nil_append] at hgr ⊢
    exact ⟨_, _, hr, hgr.1, hgr.2, .inr ⟨_, rfl, Nat.le_refl _⟩⟩
  · by_cases hroom : vs.length + 1 ≤ cap
    · have hr := run_append_room (P := P) w t ty e i ht hi0 g vs.length cap cs hh a 1 c [u] (by simp [hs]) hnews h1 hroom (by simp [hs]; omega)
      refine ⟨_, _, hr, .inr ⟨g, cap, _, by simp, hbg, setRow_heap w g cs _ e _ hh, by simpa using hroom, ?_, hcm, ?_⟩, ⟨rfl, rfl, rfl, by simp, fun j _ hk => setRow_other w g j _ (fun ee => hk (by simp [Value.ownBlock, ee]))⟩, .inl rfl⟩
      · simp [hs]; omega
      · simp only [hs, Nat.mul_one, List.length_append]
        rw [htake]
        apply List.take_left'
        simp
    · have holds : ∀ (j : Nat) (x : Value), vs[j]? = some x → w.cell? ((⟨g, 0, none⟩ : Addr).add j) = some x := by
        intro j x hx
        have hadd : (⟨g, 0, none⟩ : Addr).add j = ⟨g, j, none⟩ := by unfold Addr.add; split <;> simp_all
        rw [hadd, cell_of_row w g j cs e (0, 0) hh]
        rw [← htake, List.getElem?_take] at hx
        split at hx
        · simpa using hx
        · cases hx
      have hr := run_append_grow (P := P) w t ty e i z ht hi0 hz ⟨g, 0, none⟩ vs.length cap vs (by simp [hs]) holds a 1 c [u] (by simp [hs]) hnews (by omega) (by omega) (growslice_fits (by omega) (by rw [hby]; exact hbytes))
      have hgr := grown cap (by omega) (Value.ownBlock (.slice (some ⟨g, 0, none⟩) vs.length cap))
      exact ⟨_, _, hr, hgr.1, hgr.2, .inr ⟨_, rfl, Nat.le_refl _⟩⟩

theorem wpList_append_newX {P : Program} (w : World) {ops : Array Oper} {rest : List Oper} {o : Oper} {a : Act} {Q : Exit → Act → World → Prop} (hgd : o.guard = none) (s x : Operand) (t : TypeId)
    (ho : o.op = .call { callee := .builtin .append, args := #[s, x], argTypes := #[t, t] }) (B : Nat) (e : TypeId) (bytes : Nat) (z : Value) (hz1 : z.cells.size = 1) (ht : P.underlying t = some (.slice e))
    (hi : (P.info? e).map (fun i => (i.zero, i.size, i.bytes)) = some (some z, 1, bytes)) (v : Value) (vs : List Value) (hs : a.eval s = v) (hv : NewV B e w v vs)
    (ad : Addr) (c : Nat) (u : Value) (hone : u.oneCell' = true) (hx : a.eval x = .slice (some ad) 1 c) (hu : w.cell? ad = some u) (hm : vs.length + 1 ≤ 9223372036854775807) (hbytes : (vs.length + 1) * bytes ≤ 140737488355328) (hB : B ≤ w.heap.size)
    (h : ∀ v' w', NewV B e w' v' (vs ++ [u]) → w.grownBy w' v.ownBlock → (v'.ownBlock = v.ownBlock ∨ ∃ g, v'.ownBlock = some g ∧ w.heap.size ≤ g) → wpList P ops Q rest (a.put o.dst v') w') : wpList P ops Q (o :: rest) a w := by
  refine wpList_plain hgd fun K hK => ?_
  obtain ⟨v', w', hr, h2, h3, h4⟩ := run_append_newX (P := P) w B t o.type e bytes z hz1 ht hi v vs hv ad c u hone hu hm hbytes hB
  unfold Oper.wp execOp
  simp only [ho, resolve, invoke, builtin, Sem.run_bind, Sem.run_pure, Result.andThen_ok, List.map_toArray, List.map_cons, List.map_nil, hs, hx, hr]
  exact hK _ _ (h v' w' h2 h3 h4)
end Go.Sg
