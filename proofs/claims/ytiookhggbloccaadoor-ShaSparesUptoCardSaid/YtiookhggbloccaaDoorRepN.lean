/- Lists that were overwritten, and grew. (Printed by gen_rsaencodes.py.) -/
import Derived.Test.YtiookhggbloccaaDoorSpN
set_option linter.unusedVariables false
set_option linter.unusedSimpArgs false
namespace Go.Sg
open Go.RowKit
/-- How a list that was overwritten, and grew, is told. -/
theorem grown_lo {n j k : Nat} {x y : Int} (hk : k < n) : nth (List.replicate n x ++ List.replicate j y) k = x := by
  rw [nth_append_left _ _ _ (by rw [List.length_replicate]; exact hk), nth_get _ _ (by rw [List.length_replicate]; exact hk)]
  simp
theorem grown_hi {n j k : Nat} {x y : Int} (hk : n ≤ k) (hj : k < n + j) : nth (List.replicate n x ++ List.replicate j y) k = y := by
  obtain ⟨i, rfl⟩ : ∃ i, k = n + i := ⟨k - n, by omega⟩
  have := nth_append_right (List.replicate n x) (List.replicate j y) i
  rw [List.length_replicate] at this
  rw [this, nth_get _ _ (by rw [List.length_replicate]; omega)]
  simp
theorem rep_nth {n k : Nat} {x : Int} (hk : k < n) : nth (List.replicate n x) k = x := by
  rw [nth_get _ _ (by rw [List.length_replicate]; exact hk)]
  simp
theorem rep_set {z : List Int} {i n : Nat} {x : Int} (hl : z.length = n) (hi : i < n) (h : z.take i = List.replicate i x) : (z.set i x).take (i + 1) = List.replicate (i + 1) x := by
  rw [take_succ_nth _ _ (by rw [List.length_set, hl]; exact hi), nth_set _ _ _ _ (by rw [hl]; exact hi), if_pos rfl, List.take_set_of_le (Nat.le_refl _), h, List.replicate_succ']
theorem rep_all {z : List Int} {n : Nat} {x : Int} (hl : z.length = n) (h : z.take n = List.replicate n x) : z = List.replicate n x := by
  rwa [List.take_of_length_le (by omega)] at h
end Go.Sg
