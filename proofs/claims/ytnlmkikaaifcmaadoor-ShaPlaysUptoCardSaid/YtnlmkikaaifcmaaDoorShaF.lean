/- package sha: Sum of a State by its contract. -/
import Derived.Test.YtnlmkikaaifcmaaDoorShaE
import Derived.Outline
set_option linter.unusedVariables false
set_option linter.unusedSimpArgs false
namespace Go.Sg

def shaField (h : Int) : Nat := shaBlock h / 8
theorem gap_test {sz f : Nat} (h : (sz = 64 ∧ f = 8) ∨ (sz = 128 ∧ f = 16)) (n j : Nat) (hj : j ≤ gap sz f n) : ((n % sz + (1 + j)) % sz = sz - f) ↔ j = gap sz f n := by
  unfold gap at *
  rcases h with ⟨rfl, rfl⟩ | ⟨rfl, rfl⟩ <;> omega
theorem gap_le {sz f : Nat} (h : (sz = 64 ∧ f = 8) ∨ (sz = 128 ∧ f = 16)) (n : Nat) : gap sz f n < sz := by
  unfold gap
  rcases h with ⟨rfl, rfl⟩ | ⟨rfl, rfl⟩ <;> omega
theorem lenB_len (n k : Nat) : (lenB n k).length = k := by simp [lenB]
theorem lenB_take_next (n k c : Nat) (hc : c < k) : (lenB n k).take (k - c) = (lenB n k).take (k - (c + 1)) ++ [((8 * n / 256 ^ c % 256 : Nat) : Int)] := by
  rw [show k - c = (k - (c + 1)) + 1 by omega, take_succ_nth _ _ (by rw [lenB_len]; omega)]
  congr 2
  simp only [nth, lenB, List.getD_eq_getElem?_getD, List.getElem?_map, List.getElem?_range (show k - (c + 1) < k by omega), Option.map_some, Option.getD_some]
  rw [show k - 1 - (k - (c + 1)) = c by omega]
theorem lenB_u8 (n k : Nat) : U8 (lenB n k) := .of_mem (by omega) (by
  intro x hx
  obtain ⟨i, _, rfl⟩ := List.mem_map.1 hx
  omega)
theorem tail_u8 (b f n : Nat) : U8 (tail_ b f n) := by
  unfold tail_
  rw [show (128 :: (List.replicate (gap b f n) 0 ++ lenB n f) : List Int) = [128] ++ (List.replicate (gap b f n) 0 ++ lenB n f) from rfl]
  exact (InR.one (by omega) (by omega)).append (by omega) ((InR.zeros (by omega) _).append (by omega) (lenB_u8 _ _))
theorem tail_len (b f n : Nat) : (tail_ b f n).length = 1 + gap b f n + f := by simp [tail_, lenB_len]; omega
theorem padded_len (b f : Nat) (bs : List Int) : (padded b f bs).length = bs.length + (1 + gap b f bs.length + f) := by rw [padded, List.length_append, tail_len]
theorem bytes32_len (v : BitVec 32) : (bytes32 v).length = 4 := rfl
theorem bytes64_len (v : BitVec 64) : (bytes64 v).length = 8 := by simp [bytes64]
theorem flat32_len (l : List (BitVec 32)) : (l.flatMap bytes32).length = 4 * l.length := by
  induction l with
  | nil => rfl
  | cons x l ih => simp [ih, bytes32_len]; omega
theorem flat64_len (l : List (BitVec 64)) : (l.flatMap bytes64).length = 8 * l.length := by
  induction l with
  | nil => rfl
  | cons x l ih => simp [ih, bytes64_len]; omega
theorem flat32_next (l : List (BitVec 32)) (k : Nat) (h : k < l.length) : (l.take (k + 1)).flatMap bytes32 = (l.take k).flatMap bytes32 ++ bytes32 (l.getD k 0) := by
  rw [List.take_succ_eq_append_getElem h, List.flatMap_append]; simp [h]
theorem flat64_next (l : List (BitVec 64)) (k : Nat) (h : k < l.length) : (l.take (k + 1)).flatMap bytes64 = (l.take k).flatMap bytes64 ++ bytes64 (l.getD k 0) := by
  rw [List.take_succ_eq_append_getElem h, List.flatMap_append]; simp [h]
theorem bytes64_next (v : BitVec 64) (c : Nat) (hc : c < 8) : (bytes64 v).take (8 - c) = (bytes64 v).take (8 - (c + 1)) ++ [((v.toNat / 256 ^ c % 256 : Nat) : Int)] := by
  rw [show 8 - c = (8 - (c + 1)) + 1 by omega, take_succ_nth _ _ (by rw [bytes64_len]; omega)]
  congr 2
  simp only [nth, bytes64, List.getD_eq_getElem?_getD, List.getElem?_map, List.getElem?_range (show 8 - (c + 1) < 8 by omega), Option.map_some, Option.getD_some]
  rw [show 7 - (8 - (c + 1)) = c by omega]
theorem bytes32_u8 (v : BitVec 32) : U8 (bytes32 v) := .of_mem (by omega) (by
  intro x hx
  simp [bytes32] at hx
  omega)
theorem bytes64_u8 (v : BitVec 64) : U8 (bytes64 v) := .of_mem (by omega) (by
  intro x hx
  obtain ⟨i, _, rfl⟩ := List.mem_map.1 hx
  omega)
theorem flat32_u8 (l : List (BitVec 32)) : U8 (l.flatMap bytes32) := by
  induction l with
  | nil => exact .nil (by omega)
  | cons x l ih => simp only [List.flatMap_cons]; exact (bytes32_u8 x).append (by omega) ih
theorem flat64_u8 (l : List (BitVec 64)) : U8 (l.flatMap bytes64) := by
  induction l with
  | nil => exact .nil (by omega)
  | cons x l ih => simp only [List.flatMap_cons]; exact (bytes64_u8 x).append (by omega) ih
theorem sha_u8 (h : Int) (bs : List Int) : U8 (sha h bs) := by
  unfold sha
  by_cases h1 : h = 1
  · rw [if_pos h1]; exact flat32_u8 _
  by_cases h2 : h = 2
  · rw [if_neg h1, if_pos h2]; exact (flat64_u8 _).take (by omega) _
  by_cases h3 : h = 3
  · rw [if_neg h1, if_neg h2, if_pos h3]; exact flat64_u8 _
  rw [if_neg h1, if_neg h2, if_neg h3]; exact .nil (by omega)
theorem sha_len (h : Int) (bs : List Int) : (sha h bs).length = shaSize h := by
  unfold sha shaSize
  by_cases h1 : h = 1
  · rw [if_pos h1, if_pos h1]; exact flat32_len _
  by_cases h2 : h = 2
  · rw [if_neg h1, if_pos h2, if_neg h1, if_pos h2, List.length_take]; unfold sum64; rw [flat64_len]; rfl
  by_cases h3 : h = 3
  · rw [if_neg h1, if_neg h2, if_pos h3, if_neg h1, if_neg h2, if_pos h3]; exact flat64_len _
  rw [if_neg h1, if_neg h2, if_neg h3, if_neg h1, if_neg h2, if_neg h3]; rfl
theorem getD8 {n : Nat} (S : List (BitVec n)) (h : S.length = 8) : ∃ a b c d e f g i, S = [a, b, c, d, e, f, g, i] := by
  match S, h with
  | [a, b, c, d, e, f, g, i], _ => exact ⟨a, b, c, d, e, f, g, i, rfl⟩
end Go.Sg
namespace Go.Proofs.YtnlmkikaaifcmaaDoor
open Go.RowKit Go.Sg

theorem ix32 (S : List (BitVec 32)) (hS : S.length = 8) (k : Nat) (hk : k < 8) (W : World) :
    (Instr.index 41 (.agg (S.map v32).toArray) (.int .i64 (k : Int))).run Tryd.prog W = .ok (.int .u32 (wi (S.getD k 0))) W := by
  obtain ⟨a, b, c, d, e, f, g, i, rfl⟩ := getD8 S hS
  rcases (show k = 0 ∨ k = 1 ∨ k = 2 ∨ k = 3 ∨ k = 4 ∨ k = 5 ∨ k = 6 ∨ k = 7 by omega) with rfl | rfl | rfl | rfl | rfl | rfl | rfl | rfl
  all_goals kernel_rfl
theorem ix64 (S : List (BitVec 64)) (hS : S.length = 8) (k : Nat) (hk : k < 8) (W : World) :
    (Instr.index 43 (.agg (S.map v64).toArray) (.int .i64 (k : Int))).run Tryd.prog W = .ok (.int .u64 (wi (S.getD k 0))) W := by
  obtain ⟨a, b, c, d, e, f, g, i, rfl⟩ := getD8 S hS
  rcases (show k = 0 ∨ k = 1 ∨ k = 2 ∨ k = 3 ∨ k = 4 ∨ k = 5 ∨ k = 6 ∨ k = 7 by omega) with rfl | rfl | rfl | rfl | rfl | rfl | rfl | rfl
  all_goals kernel_rfl
end Go.Proofs.YtnlmkikaaifcmaaDoor
