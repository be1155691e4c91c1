/- Rows of the call's own whose places are slices: several are appended at once. (Printed by gen_rowsc.py.) -/
import Derived.Test.YtnlmkikaaifcmaaRowsB
set_option linter.unusedVariables false
set_option linter.unusedSimpArgs false
namespace Go.Sg
open Go.RowKit

theorem run_append_newVs {P : Program} (w : World) (B : Nat) (t ty e : TypeId) (bytes : Nat) (ht : P.underlying t = some (.slice e)) (hi : (P.info? e).map (fun i => (i.zero, i.size, i.bytes)) = some (some (.slice none 0 0), 1, bytes))
    (v : Value) (vs : List Value) (hv : NewV B e w v vs) (a : Addr) (c : Nat) (us : List Value) (hone : ∀ u ∈ us, ∃ a n c, u = Value.slice a n c) (hnews : ∀ (j : Nat) (x : Value), us[j]? = some x → w.cell? (a.add j) = some x) (hp : 0 < us.length) (hm : vs.length + us.length ≤ 9223372036854775807) (hbytes : (vs.length + us.length) * bytes ≤ 140737488355328) (hB : B ≤ w.heap.size) :
    ∃ v' w', (Builtin.append_ #[t, t] ty #[v, .slice (some a) us.length c]).run P w = .ok v' w' ∧ NewV B e w' v' (vs ++ us) ∧ w.grownBy w' v.ownBlock ∧ (v'.ownBlock = v.ownBlock ∨ ∃ g, v'.ownBlock = some g ∧ w.heap.size ≤ g) := by
  obtain ⟨i, hi0, hz, hs, hby⟩ : ∃ i, P.info? e = some i ∧ i.zero = some (.slice none 0 0) ∧ i.size = 1 ∧ i.bytes = bytes := info_parts hi
  have h1 : ∀ x ∈ us, x.oneCell' = true := fun x hx => one_slice (hone x hx)
  have grown : ∀ (old : Nat), old < vs.length + us.length → ∀ (row : Option Nat),
      NewV B e (w.drew.alloc (.cells (vs.toArray ++ us.toArray ++ Builtin.zeroCells (Value.cells (.slice none 0 0)) (grownCap w (vs.length + us.length) old e - (vs.length + us.length))) e))
        (.slice (some ⟨w.heap.size, 0, none⟩) (vs.length + us.length) (grownCap w (vs.length + us.length) old e)) (vs ++ us) ∧
      w.grownBy (w.drew.alloc (.cells (vs.toArray ++ us.toArray ++ Builtin.zeroCells (Value.cells (.slice none 0 0)) (grownCap w (vs.length + us.length) old e - (vs.length + us.length))) e)) row := by
    intro old ho row
    have hge := grownCap_ge w (vs.length + us.length) old e
    have hcm : grownCap w (vs.length + us.length) old e ≤ maxLen := grownCap_le_maxLen w (vs.length + us.length) old e (by unfold maxLen; omega)
    unfold maxLen at hcm
    refine ⟨.inr ⟨w.heap.size, grownCap w (vs.length + us.length) old e, _, by simp, hB, Go.heap_alloc_new w.drew _, by simp; omega, ?_, by omega, ?_⟩, ⟨rfl, rfl, rfl, by simp, fun j hj _ => Below.heap_alloc w.drew _ j hj⟩⟩
    · simp only [Array.size_append, List.size_toArray, size_zeroCells]
      rw [show (Value.cells (.slice none 0 0)).size = 1 from rfl]
      simp
      omega
    · simp only [Array.toList_append, List.append_assoc, List.length_append]
      rw [← List.append_assoc]
      apply List.take_left'
      simp
  rcases hv with ⟨rfl, rfl⟩ | ⟨g, cap, cs, rfl, hbg, hh, hnc, hcs, hcm, htake⟩
  · have hr := run_append_nil (P := P) w t ty e i (.slice none 0 0) ht hi0 hz a us.length c us (by simp [hs]) hnews (by omega) (by simp at hm; omega) (by rw [hby]; simp at hbytes; omega)
    have hgr := grown 0 (by simp; omega) (Value.ownBlock (.slice none 0 0))
    simp only [List.length_nil, Nat.zero_add, Array.empty_append, List.nil_append] at hgr ⊢
    exact ⟨_, _, hr, hgr.1, hgr.2, .inr ⟨_, rfl, Nat.le_refl _⟩⟩
  · by_cases hroom : vs.length + us.length ≤ cap
    · have hr := run_append_room (P := P) w t ty e i ht hi0 g vs.length cap cs hh a us.length c us (by simp [hs]) hnews h1 hroom (by simp [hs]; omega)
      refine ⟨_, _, hr, .inr ⟨g, cap, _, by simp, hbg, setRow_heap w g cs _ e _ hh, by simpa using hroom, ?_, hcm, ?_⟩, ⟨rfl, rfl, rfl, by simp, fun j _ hk => setRow_other w g j _ (fun ee => hk (by simp [Value.ownBlock, ee]))⟩, .inl rfl⟩
      · simp [hs]; omega
      · simp only [hs, Nat.mul_one, List.length_append]
        rw [htake]
        apply List.take_left'
        simp
    · have holds : ∀ (j : Nat) (x : Value), vs[j]? = some x → w.cell? ((⟨g, 0, none⟩ : Addr).add j) = some x := by
        intro j x hx
        have hadd : (⟨g, 0, none⟩ : Addr).add j = ⟨g, j, none⟩ := by unfold Addr.add; split <;> simp_all
        rw [hadd, cell_of_row w g j cs e (0, 0) hh]
        rw [← htake, List.getElem?_take] at hx
        split at hx
        · simpa using hx
        · cases hx
      have hr := run_append_grow (P := P) w t ty e i (.slice none 0 0) ht hi0 hz ⟨g, 0, none⟩ vs.length cap vs (by simp [hs]) holds a us.length c us (by simp [hs]) hnews (by omega) (by omega) (growslice_fits (by omega) (by rw [hby]; exact hbytes))
      have hgr := grown cap (by omega) (Value.ownBlock (.slice (some ⟨g, 0, none⟩) vs.length cap))
      exact ⟨_, _, hr, hgr.1, hgr.2, .inr ⟨_, rfl, Nat.le_refl _⟩⟩

theorem wpList_append_newVs {P : Program} (w : World) {ops : Array Oper} {rest : List Oper} {o : Oper} {a : Act} {Q : Exit → Act → World → Prop} (hgd : o.guard = none) (s x : Operand) (t : TypeId)
    (ho : o.op = .call { callee := .builtin .append, args := #[s, x], argTypes := #[t, t] }) (B : Nat) (e : TypeId) (bytes : Nat) (ht : P.underlying t = some (.slice e))
    (hi : (P.info? e).map (fun i => (i.zero, i.size, i.bytes)) = some (some (.slice none 0 0), 1, bytes)) (v : Value) (vs : List Value) (hs : a.eval s = v) (hv : NewV B e w v vs)
    (ad : Addr) (c : Nat) (us : List Value) (hone : ∀ u ∈ us, ∃ a n c, u = Value.slice a n c) (hx : a.eval x = .slice (some ad) us.length c) (hu : ∀ (j : Nat) (x : Value), us[j]? = some x → w.cell? (ad.add j) = some x) (hp : 0 < us.length) (hm : vs.length + us.length ≤ 9223372036854775807) (hbytes : (vs.length + us.length) * bytes ≤ 140737488355328) (hB : B ≤ w.heap.size)
    (h : ∀ v' w', NewV B e w' v' (vs ++ us) → w.grownBy w' v.ownBlock → (v'.ownBlock = v.ownBlock ∨ ∃ g, v'.ownBlock = some g ∧ w.heap.size ≤ g) → wpList P ops Q rest (a.put o.dst v') w') : wpList P ops Q (o :: rest) a w := by
  refine wpList_plain hgd fun K hK => ?_
  obtain ⟨v', w', hr, h2, h3, h4⟩ := run_append_newVs (P := P) w B t o.type e bytes ht hi v vs hv ad c us hone hu hp hm hbytes hB
  unfold Oper.wp execOp
  simp only [ho, resolve, invoke, builtin, Sem.run_bind, Sem.run_pure, Result.andThen_ok, List.map_toArray, List.map_cons, List.map_nil, hs, hx, hr]
  exact hK _ _ (h v' w' h2 h3 h4)
end Go.Sg
