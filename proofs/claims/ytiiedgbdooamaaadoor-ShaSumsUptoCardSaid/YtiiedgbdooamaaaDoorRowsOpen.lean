/- A slice of slices of bytes that came in, as the contracts read it; what the bound gives. -/
import Derived.Test.YtiiedgbdooamaaaDoorOpen
import Derived.Test.YtiiedgbdooamaaaDoorRowsV
import Derived.Deep.Matrix
set_option linter.unusedVariables false
set_option linter.unusedSimpArgs false
namespace Go.Proofs.YtiiedgbdooamaaaDoor
open Go.ChangeShapes Go.WideShapes Go.ChangeAt Go.RowKit Go.Sg

theorem bulk_sum {H : Type} (f : Nat → Nat) (g : Nat → DataW H) (rs : List Nat) (h : ∀ r ∈ rs, f r + 1 ≤ Rows.uptoBulk (g r)) : (rs.map f).sum + rs.length ≤ Rows.uptoBulkAll (rs.map g) := by
  induction rs with
  | nil => simp [Rows.uptoBulkAll]
  | cons r rs ih =>
    have h1 := h r (by simp)
    have h2 := ih fun x hx => h x (by simp [hx])
    simp only [List.map_cons, List.sum_cons, List.length_cons, Rows.uptoBulkAll]
    omega
theorem rows_open {H : Type} (W : World) (x : Addr) (l c : Nat) (A : Nat → Option Addr) (L C : Nat → Nat) (Z : Nat → List Int) (hl : l ≤ c) (base : Nat)
    (hr : ∀ r, r < c → W.cell? (x.add r) = some (.slice (A r) (L r) (C r)) ∧ L r ≤ C r ∧ C r ≤ maxLen ∧ (Z r).length = C r ∧ (∀ n ∈ Z r, (Lit.int .u8 n).wf = true) ∧ (A r = none → C r = 0) ∧
      ∀ a', A r = some a' → base ≤ a'.block ∧ ∀ i, i < C r → W.cell? (a'.add i) = some (.int .u8 ((Z r).getD i 0)))
    (d : DataW H) (S : List (DataW H)) (hd : d = .slice ((List.range l).map fun r => Go.Deep.intRow .u8 (A r) (L r) (Z r)) S) :
    ∃ Q : List Part, Q.length = l ∧ Rows_ W (some x) Q ∧ (flat Q).length + Q.length + 1 ≤ Rows.uptoBulk d := by
  have row : ∀ r, r < c → IsRow .u8 W (A r) (L r) (C r) (Z r) := by
    intro r hc
    obtain ⟨_, h1, h2, h3, h4, h5, h6⟩ := hr r hc
    cases hA : A r with
    | none =>
      have h7 := h5 hA
      refine .inl ⟨rfl, by omega, h7, List.eq_nil_of_length_eq_zero (by omega)⟩
    | some a' =>
      exact .inr ⟨a', rfl, h1, h2, h3, fun i hi => (h6 a' hA).2 i (by omega), h4⟩
  refine ⟨(List.range l).map fun r => Part.mk (A r) (C r) ((Z r).take (L r)), by simp, ⟨fun hp => ?_, fun p hp => ?_, fun p hp => ?_⟩, ?_⟩
  · simp only [List.length_map, List.length_range] at hp
    obtain ⟨b, off, spot⟩ := x
    have h0 := (hr 0 (by omega)).1
    have hs : spot = none := by simpa [Addr.add] using World.cell?_spot h0
    subst hs
    refine ⟨b, off, rfl, fun j hj => ?_⟩
    simp only [List.length_map, List.length_range] at hj
    have hc := (hr j (by omega)).1
    have hadd : (⟨b, off, none⟩ : Addr).add j = ⟨b, off + j, none⟩ := by unfold Addr.add; split <;> simp_all
    rw [hadd] at hc
    rw [hc]
    simp only [List.getElem_map, List.getElem_range, Part.val]
    rw [(row j (by omega)).len]
  · simp only [List.mem_map, List.mem_range] at hp
    obtain ⟨r, h1, rfl⟩ := hp
    exact (row r (by omega)).sl
  · simp only [List.mem_map, List.mem_range] at hp
    obtain ⟨r, h1, rfl⟩ := hp
    exact (row r (by omega)).u8
  · rw [hd]
    have h1 := bulk_sum (H := H) L (fun r => Go.Deep.intRow .u8 (A r) (L r) (Z r)) (List.range l) (fun r hm => by
      have hc : r < c := by have := List.mem_range.1 hm; omega
      obtain ⟨_, g1, g2, g3, g4, g5, g6⟩ := hr r hc
      unfold Go.Deep.intRow
      cases hA : A r with
      | none =>
        have h7 := g5 hA
        have : L r = 0 := by omega
        simp [Rows.uptoBulk, this]
      | some a' =>
        have h8 := bulk_slice (H := H) (lits .u8 ((Z r).take (L r))) (lits .u8 ((Z r).drop (L r)))
        simp only [lits, List.length_map, List.length_take, List.length_drop] at h8
        simp only [lits] at h8 ⊢
        omega)
    have h2 : (flat ((List.range l).map fun r => Part.mk (A r) (C r) ((Z r).take (L r)))).length = ((List.range l).map L).sum := by
      unfold flat
      rw [List.flatMap_map, List.length_flatMap]
      congr 1
      apply List.map_congr_left
      intro r hm
      have hc : r < c := by have := List.mem_range.1 hm; omega
      exact (row r hc).len
    simp only [Rows.uptoBulk, List.length_map, List.length_range] at h1 ⊢
    rw [h2]
    omega
end Go.Proofs.YtiiedgbdooamaaaDoor
