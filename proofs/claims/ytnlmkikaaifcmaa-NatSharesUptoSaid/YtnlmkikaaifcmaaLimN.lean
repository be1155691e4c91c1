/- How great a number can be. -/
import Derived.Test.YtnlmkikaaifcmaaNum
set_option linter.unusedVariables false
set_option linter.unusedSimpArgs false
namespace Go.Sg
structure Lim (k n : Nat) : Prop where
  lt : n < R ^ k
theorem Lim.of_list {z : List Int} {k : Nat} (u : U32 z) (h : z.length ≤ k) : Lim k (val z) := ⟨Nat.lt_of_lt_of_le (val_lt u) (Nat.pow_le_pow_right R_pos h)⟩
theorem Lim.len {z : List Int} {k : Nat} (h : Lim k (val z)) (c : Canon z) (u : U32 z) : z.length ≤ k := c.len_lt u h.lt
theorem Lim.le {k m n : Nat} (h : Lim k m) (hn : n ≤ m) : Lim k n := ⟨Nat.lt_of_le_of_lt hn h.lt⟩
theorem Lim.eq {k m n : Nat} (h : Lim k m) (e : n = m) : Lim k n := by rw [e]; exact h
theorem Lim.nil {k : Nat} (h : 0 < k) : Lim k (val []) := ⟨Rpow_pos k⟩
theorem Lim.mono {k l n : Nat} (h : Lim k n) (hl : k ≤ l) : Lim l n := ⟨Nat.lt_of_lt_of_le h.lt (Nat.pow_le_pow_right R_pos hl)⟩
theorem Lim.mul {k l m n : Nat} (h : Lim k m) (h' : Lim l n) : Lim (k + l) (m * n) := ⟨by
  rw [Nat.pow_add]
  rcases Nat.eq_zero_or_pos n with h0 | h0
  · rw [h0, Nat.mul_zero]; exact Nat.mul_pos (Rpow_pos k) (Rpow_pos l)
  · exact Nat.lt_of_lt_of_le (Nat.mul_lt_mul_of_pos_right h.lt h0) (Nat.mul_le_mul_left _ (Nat.le_of_lt h'.lt))⟩
theorem Lim.add {k l m n : Nat} (h : Lim k m) (h' : Lim l n) : Lim (k + l + 1) (m + n) := ⟨by
  have e : R ^ (k + l + 1) = R ^ k * R ^ l * R := by rw [Nat.pow_succ, Nat.pow_add]
  have h1 : R ^ k * 1 ≤ R ^ k * R ^ l := Nat.mul_le_mul_left _ (Rpow_pos l)
  have h2 : 1 * R ^ l ≤ R ^ k * R ^ l := Nat.mul_le_mul_right _ (Rpow_pos k)
  have h3 : R ^ k * R ^ l * 2 ≤ R ^ k * R ^ l * R := Nat.mul_le_mul_left _ (by decide)
  have := h.lt
  have := h'.lt
  omega⟩
end Go.Sg
