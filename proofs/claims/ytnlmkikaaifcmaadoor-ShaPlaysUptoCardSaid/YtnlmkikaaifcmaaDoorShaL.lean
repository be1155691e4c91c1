/- SHA-2 in plain words: two ways to fill a text for blocks of 128 bytes. No program in sight. -/
import Derived.Test.YtnlmkikaaifcmaaDoorShaF
set_option linter.unusedVariables false
set_option linter.unusedSimpArgs false
namespace Go.Sg
theorem lenB16 (n : Nat) (h : 8 * n < 18446744073709551616) : lenB n 16 = List.replicate 8 0 ++ lenB n 8 := by
  apply List.ext_getElem
  · simp [lenB]
  · intro i h1 h2
    have hi16 : i < 16 := by simpa [lenB] using h1
    by_cases hi : i < 8
    · rw [List.getElem_append_left (by simpa using hi), List.getElem_replicate]
      simp only [lenB, List.getElem_map, List.getElem_range]
      have : (256 : Nat) ^ 8 ≤ 256 ^ (16 - 1 - i) := Nat.pow_le_pow_right (by decide) (by omega)
      rw [Nat.div_eq_of_lt (by omega)]
      rfl
    · rw [List.getElem_append_right (by simpa using Nat.le_of_not_lt hi)]
      simp only [lenB, List.getElem_map, List.getElem_range, List.length_replicate]
      rw [show 16 - 1 - i = 8 - 1 - (i - 8) by omega]
/-- Where the length takes sixteen bytes: a block more. -/
def long128 (n : Nat) : Bool := decide (112 ≤ n % 128 ∧ n % 128 < 120)
theorem padded128_same (bs : List Int) (h : 8 * bs.length < 18446744073709551616) (hn : long128 bs.length = false) : padded 128 16 bs = padded 128 8 bs := by
  unfold long128 at hn
  have hn' := of_decide_eq_false hn
  unfold padded tail_
  rw [lenB16 _ h, ← List.append_assoc (List.replicate _ _), List.replicate_append_replicate, show gap 128 16 bs.length + 8 = gap 128 8 bs.length by unfold gap; omega]
theorem padded128_more (bs : List Int) (h : 8 * bs.length < 18446744073709551616) (hn : long128 bs.length = true) :
    padded 128 16 bs = (padded 128 8 bs).take ((padded 128 8 bs).length - 8) ++ List.replicate 128 0 ++ (padded 128 8 bs).drop ((padded 128 8 bs).length - 8) := by
  unfold long128 at hn
  have hn' := of_decide_eq_true hn
  have e : padded 128 8 bs = (bs ++ 128 :: List.replicate (gap 128 8 bs.length) 0) ++ lenB bs.length 8 := by
    unfold padded tail_; simp
  have hl : (padded 128 8 bs).length - 8 = (bs ++ 128 :: List.replicate (gap 128 8 bs.length) (0 : Int)).length := by rw [e, List.length_append, lenB_len]; omega
  rw [hl, e, List.take_left, List.drop_left]
  unfold padded tail_
  rw [lenB16 _ h, ← List.append_assoc (List.replicate _ _), List.replicate_append_replicate, show gap 128 16 bs.length + 8 = gap 128 8 bs.length + 128 by unfold gap; omega, ← List.replicate_append_replicate]
  simp
end Go.Sg
