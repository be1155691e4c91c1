/- Merkle trees in plain words: the tree that splits at the greatest power of two, and the same one by levels. No program in sight. -/
import Derived.Test.YtmbifokiebjmmaaDoorOpen
set_option linter.unusedVariables false
set_option linter.unusedSimpArgs false
namespace Go.Sg
section
variable {α : Type} (P : α → α → α) (e : α)
/-- The level above: side by side in pairs, the last one alone. -/
def upL : List α → List α
  | a :: b :: l => P a b :: upL l
  | [a] => [a]
  | [] => []
/-- The root of at most 2^h leaves. -/
def rootH : Nat → List α → α
  | 0, l => l.headD e
  | h + 1, l => if l.length ≤ 2 ^ h then rootH h l else P (rootH h (l.take (2 ^ h))) (rootH h (l.drop (2 ^ h)))
/-- The hashes that show leaf i. -/
def pathH : Nat → List α → Nat → List α
  | 0, _, _ => []
  | h + 1, l, i => if l.length ≤ 2 ^ h then pathH h l i else
      if i < 2 ^ h then pathH h (l.take (2 ^ h)) i ++ [rootH P e h (l.drop (2 ^ h))] else pathH h (l.drop (2 ^ h)) (i - 2 ^ h) ++ [rootH P e h (l.take (2 ^ h))]
/-- The root that follows from a leaf and a proof. -/
def foldH : Nat → Nat → Nat → α → List α → Option α
  | 0, _, _, d, p => if p = [] then some d else none
  | h + 1, n, i, d, p => if n ≤ 2 ^ h then foldH h n i d p else
      match p.getLast? with
      | none => none
      | some z => if i < 2 ^ h then (foldH h (2 ^ h) i d p.dropLast).map (P · z) else (foldH h (n - 2 ^ h) (i - 2 ^ h) d p.dropLast).map (P z ·)
end
section
variable {α : Type} {P : α → α → α} {e : α}
theorem upL_len : ∀ l : List α, (upL P l).length = (l.length + 1) / 2
  | [] => by simp [upL]
  | [a] => by simp [upL]
  | a :: b :: l => by
    simp only [upL, List.length_cons, upL_len l]
    omega
theorem upL_take : ∀ (n : Nat) (l : List α), (upL P l).take n = upL P (l.take (2 * n))
  | 0, l => by simp [upL]
  | n + 1, [] => by simp [upL]
  | n + 1, [a] => by simp [upL, show 2 * (n + 1) = 2 * n + 1 + 1 by omega]
  | n + 1, a :: b :: l => by
    rw [show 2 * (n + 1) = 2 * n + 1 + 1 by omega]
    simp only [upL, List.take_succ_cons]
    rw [upL_take n l]
theorem upL_drop : ∀ (n : Nat) (l : List α), (upL P l).drop n = upL P (l.drop (2 * n))
  | 0, l => by simp
  | n + 1, [] => by simp [upL]
  | n + 1, [a] => by simp [upL, show 2 * (n + 1) = 2 * n + 1 + 1 by omega]
  | n + 1, a :: b :: l => by
    rw [show 2 * (n + 1) = 2 * n + 1 + 1 by omega]
    simp only [upL, List.drop_succ_cons]
    rw [upL_drop n l]
theorem pow2_succ (h : Nat) : 2 ^ (h + 1) = 2 * 2 ^ h := by rw [Nat.pow_succ]; omega
theorem rootH_succ {h : Nat} {l : List α} (hl : l.length ≤ 2 ^ h) : rootH P e (h + 1) l = rootH P e h l := by rw [rootH, if_pos hl]
theorem rootH_split {h : Nat} {l : List α} (hl : 2 ^ h < l.length) : rootH P e (h + 1) l = P (rootH P e h (l.take (2 ^ h))) (rootH P e h (l.drop (2 ^ h))) := by rw [rootH, if_neg (by omega)]
theorem rootH_add {h : Nat} {l : List α} (hl : l.length ≤ 2 ^ h) : ∀ k, rootH P e (h + k) l = rootH P e h l
  | 0 => rfl
  | k + 1 => by
    rw [← Nat.add_assoc, rootH_succ (Nat.le_trans hl (Nat.pow_le_pow_right (by omega) (by omega))), rootH_add hl k]
theorem rootH_any {h h' : Nat} {l : List α} (h1 : l.length ≤ 2 ^ h) (h2 : l.length ≤ 2 ^ h') : rootH P e h l = rootH P e h' l := by
  by_cases c : h ≤ h'
  · obtain ⟨k, rfl⟩ : ∃ k, h' = h + k := ⟨h' - h, by omega⟩
    rw [rootH_add h1]
  · obtain ⟨k, rfl⟩ : ∃ k, h = h' + k := ⟨h - h', by omega⟩
    rw [rootH_add h2]
/-- One level up the root is the same. -/
theorem rootH_up : ∀ (h : Nat) (l : List α), l.length ≤ 2 ^ (h + 1) → rootH P e (h + 1) l = rootH P e h (upL P l)
  | 0, l, hl => by
    match l with
    | [] => rfl
    | [a] => rfl
    | [a, b] => rfl
    | a :: b :: c :: l => simp at hl
  | h + 1, l, hl => by
    have e1 := pow2_succ h
    have e2 := pow2_succ (h + 1)
    by_cases c : l.length ≤ 2 ^ (h + 1)
    · rw [rootH_succ c, rootH_up h l c, rootH_succ (by rw [upL_len]; omega)]
    · rw [rootH_split (l := l) (by omega), rootH_split (l := upL P l) (by rw [upL_len]; omega), upL_take, upL_drop, ← e1, rootH_up h (l.take _) (by rw [List.length_take]; omega), rootH_up h (l.drop _) (by rw [List.length_drop]; omega)]
/-- The one beside place i. -/
def besideL (l : List α) (i : Nat) : List α := (l[if i % 2 = 1 then i - 1 else i + 1]?).toList
theorem besideL_take {l : List α} {i k : Nat} (hi : i < 2 * k) : besideL (l.take (2 * k)) i = besideL l i := by
  unfold besideL
  rw [List.getElem?_take, if_pos (by split <;> omega)]
theorem besideL_drop {l : List α} {i k : Nat} (hi : 2 * k ≤ i) : besideL (l.drop (2 * k)) (i - 2 * k) = besideL l i := by
  unfold besideL
  rw [List.getElem?_drop]
  congr 2
  split <;> split <;> omega
theorem pathH_succ {h i : Nat} {l : List α} (hl : l.length ≤ 2 ^ h) : pathH P e (h + 1) l i = pathH P e h l i := by rw [pathH, if_pos hl]
theorem pathH_left {h i : Nat} {l : List α} (hl : 2 ^ h < l.length) (hi : i < 2 ^ h) : pathH P e (h + 1) l i = pathH P e h (l.take (2 ^ h)) i ++ [rootH P e h (l.drop (2 ^ h))] := by rw [pathH, if_neg (by omega), if_pos hi]
theorem pathH_right {h i : Nat} {l : List α} (hl : 2 ^ h < l.length) (hi : ¬ i < 2 ^ h) : pathH P e (h + 1) l i = pathH P e h (l.drop (2 ^ h)) (i - 2 ^ h) ++ [rootH P e h (l.take (2 ^ h))] := by rw [pathH, if_neg (by omega), if_neg hi]
theorem pathH_add {h i : Nat} {l : List α} (hl : l.length ≤ 2 ^ h) : ∀ k, pathH P e (h + k) l i = pathH P e h l i
  | 0 => rfl
  | k + 1 => by
    rw [← Nat.add_assoc, pathH_succ (Nat.le_trans hl (Nat.pow_le_pow_right (by omega) (by omega))), pathH_add hl k]
theorem pathH_any {h h' i : Nat} {l : List α} (h1 : l.length ≤ 2 ^ h) (h2 : l.length ≤ 2 ^ h') : pathH P e h l i = pathH P e h' l i := by
  by_cases c : h ≤ h'
  · obtain ⟨k, rfl⟩ : ∃ k, h' = h + k := ⟨h' - h, by omega⟩
    rw [pathH_add h1]
  · obtain ⟨k, rfl⟩ : ∃ k, h = h' + k := ⟨h - h', by omega⟩
    rw [pathH_add h2]
/-- One level up: the one beside comes first. -/
theorem pathH_up : ∀ (h : Nat) (l : List α) (i : Nat), l.length ≤ 2 ^ (h + 1) → i < l.length → pathH P e (h + 1) l i = besideL l i ++ pathH P e h (upL P l) (i / 2)
  | 0, l, i, hl, hi => by
    match l with
    | [] => simp at hi
    | [a] =>
      obtain rfl : i = 0 := by simp at hi; exact hi
      rfl
    | [a, b] =>
      obtain rfl | rfl : i = 0 ∨ i = 1 := by simp at hi; omega
      · rfl
      · rfl
    | a :: b :: c :: l => simp at hl
  | h + 1, l, i, hl, hi => by
    have e1 := pow2_succ h
    have e2 := pow2_succ (h + 1)
    by_cases c : l.length ≤ 2 ^ (h + 1)
    · rw [pathH_succ c, pathH_up h l i c hi, pathH_succ (by rw [upL_len]; omega)]
    · by_cases ci : i < 2 ^ (h + 1)
      · rw [pathH_left (l := l) (by omega) ci, pathH_left (l := upL P l) (by rw [upL_len]; omega) (show i / 2 < 2 ^ h by omega), upL_take, upL_drop, ← e1, pathH_up h (l.take _) i (by rw [List.length_take]; omega) (by rw [List.length_take]; omega), rootH_up h (l.drop _) (by rw [List.length_drop]; omega), e1, besideL_take (by omega), List.append_assoc]
      · rw [pathH_right (l := l) (by omega) ci, pathH_right (l := upL P l) (by rw [upL_len]; omega) (show ¬ i / 2 < 2 ^ h by omega), upL_take, upL_drop, ← e1, pathH_up h (l.drop _) _ (by rw [List.length_drop]; omega) (by rw [List.length_drop]; omega), rootH_up h (l.take _) (by rw [List.length_take]; omega), e1, besideL_drop (by omega), List.append_assoc, show (i - 2 * 2 ^ h) / 2 = i / 2 - 2 ^ h by omega]
theorem foldH_succ {h n i : Nat} {d : α} {p : List α} (hn : n ≤ 2 ^ h) : foldH P (h + 1) n i d p = foldH P h n i d p := by rw [foldH, if_pos hn]
theorem foldH_add {h n i : Nat} {d : α} {p : List α} (hn : n ≤ 2 ^ h) : ∀ k, foldH P (h + k) n i d p = foldH P h n i d p
  | 0 => rfl
  | k + 1 => by
    rw [← Nat.add_assoc, foldH_succ (Nat.le_trans hn (Nat.pow_le_pow_right (by omega) (by omega))), foldH_add hn k]
theorem foldH_any {h h' n i : Nat} {d : α} {p : List α} (h1 : n ≤ 2 ^ h) (h2 : n ≤ 2 ^ h') : foldH P h n i d p = foldH P h' n i d p := by
  by_cases c : h ≤ h'
  · obtain ⟨k, rfl⟩ : ∃ k, h' = h + k := ⟨h' - h, by omega⟩
    rw [foldH_add h1]
  · obtain ⟨k, rfl⟩ : ∃ k, h = h' + k := ⟨h - h', by omega⟩
    rw [foldH_add h2]
theorem foldH_none {h n i : Nat} {d : α} (hn : ¬ n ≤ 2 ^ h) : foldH P (h + 1) n i d [] = none := by rw [foldH, if_neg hn]; rfl
theorem foldH_nil {n i : Nat} {d : α} (h2 : 2 ≤ n) : ∀ h, n ≤ 2 ^ h → foldH P h n i d [] = none
  | 0, hn => by omega
  | h + 1, hn => by
    by_cases c : n ≤ 2 ^ h
    · rw [foldH_succ c, foldH_nil h2 h c]
    · exact foldH_none c
theorem foldH_left {h n i : Nat} {d z : α} {p : List α} (hn : ¬ n ≤ 2 ^ h) (hi : i < 2 ^ h) : foldH P (h + 1) n i d (p ++ [z]) = (foldH P h (2 ^ h) i d p).map (P · z) := by
  rw [foldH, if_neg hn, List.getLast?_concat, List.dropLast_concat]
  simp only [hi, if_true]
theorem foldH_right {h n i : Nat} {d z : α} {p : List α} (hn : ¬ n ≤ 2 ^ h) (hi : ¬ i < 2 ^ h) : foldH P (h + 1) n i d (p ++ [z]) = (foldH P h (n - 2 ^ h) (i - 2 ^ h) d p).map (P z ·) := by
  rw [foldH, if_neg hn, List.getLast?_concat, List.dropLast_concat]
  simp only [hi, if_false]
/-- The lowest step of a fold: the hash ahead, where there is one beside. -/
def stepF (h n i : Nat) (d : α) (p : List α) : Option α :=
  if i % 2 = 1 ∨ i + 1 < n then
    match p with
    | [] => none
    | q :: r => foldH P h ((n + 1) / 2) (i / 2) (if i % 2 = 1 then P q d else P d q) r
  else foldH P h ((n + 1) / 2) (i / 2) d p
theorem snoc_cases (p : List α) : p = [] ∨ ∃ q z, p = q ++ [z] := by
  by_cases h : p = []
  · exact .inl h
  · exact .inr ⟨p.dropLast, p.getLast h, (List.dropLast_concat_getLast h).symm⟩
theorem foldH_up : ∀ (h n i : Nat) (d : α) (p : List α), n ≤ 2 ^ (h + 1) → i < n → foldH P (h + 1) n i d p = stepF (P := P) h n i d p
  | 0, n, i, d, p, hn, hi => by
    obtain rfl | rfl : n = 1 ∨ n = 2 := by simp at hn; omega
    · obtain rfl : i = 0 := by omega
      rw [foldH_succ (by omega)]
      rfl
    · have hi2 : i = 0 ∨ i = 1 := by omega
      unfold stepF
      rw [if_pos (by omega)]
      match p with
      | [] => exact foldH_none (by omega)
      | [q] =>
        rcases hi2 with rfl | rfl
        · exact foldH_left (p := []) (by omega) (by omega)
        · exact foldH_right (p := []) (by omega) (by omega)
      | q :: r :: s =>
        obtain h0 | ⟨t, z, ht⟩ := snoc_cases (r :: s)
        · cases h0
        · rw [ht]
          have e0 : foldH P 0 ((2 + 1) / 2) (i / 2) (if i % 2 = 1 then P q d else P d q) (t ++ [z]) = none := by simp [foldH]
          simp only [e0]
          rcases hi2 with rfl | rfl
          · rw [← List.cons_append, foldH_left (by omega) (by omega)]; simp [foldH]
          · rw [← List.cons_append, foldH_right (by omega) (by omega)]; simp [foldH]
  | h + 1, n, i, d, p, hn, hi => by
    have e1 := pow2_succ h
    have e2 := pow2_succ (h + 1)
    by_cases c : n ≤ 2 ^ (h + 1)
    · rw [foldH_succ c, foldH_up h n i d p c hi]
      unfold stepF
      have c2 : (n + 1) / 2 ≤ 2 ^ h := by omega
      split
      · cases p with
        | nil => rfl
        | cons q r => exact (foldH_succ c2).symm
      · exact (foldH_succ c2).symm
    · have c2 : ¬ (n + 1) / 2 ≤ 2 ^ h := by omega
      have m1 : (n + 1) / 2 - 2 ^ h = (n - 2 ^ (h + 1) + 1) / 2 := by omega
      have m2 : (2 ^ (h + 1) + 1) / 2 = 2 ^ h := by omega
      rcases snoc_cases p with rfl | ⟨q, z, rfl⟩
      · rw [foldH_none c]
        unfold stepF
        split
        · rfl
        · exact (foldH_none c2).symm
      · by_cases ci : i < 2 ^ (h + 1)
        · have ch : i / 2 < 2 ^ h := by omega
          rw [foldH_left c ci, foldH_up h (2 ^ (h + 1)) i d q (Nat.le_refl _) ci]
          unfold stepF
          rw [if_pos (show i % 2 = 1 ∨ i + 1 < n by omega), if_pos (show i % 2 = 1 ∨ i + 1 < 2 ^ (h + 1) by omega), m2]
          cases q with
          | nil => exact (foldH_none c2).symm
          | cons q r => exact (foldH_left c2 ch).symm
        · have ch : ¬ i / 2 < 2 ^ h := by omega
          have m3 : (i - 2 ^ (h + 1)) / 2 = i / 2 - 2 ^ h := by omega
          have m4 : (i - 2 ^ (h + 1)) % 2 = i % 2 := by omega
          rw [foldH_right c ci, foldH_up h (n - 2 ^ (h + 1)) (i - 2 ^ (h + 1)) d q (by omega) (by omega)]
          unfold stepF
          simp only [m3, m4, ← m1, show (i % 2 = 1 ∨ i - 2 ^ (h + 1) + 1 < n - 2 ^ (h + 1)) ↔ (i % 2 = 1 ∨ i + 1 < n) by omega]
          split
          · cases q with
            | nil => exact (foldH_none c2).symm
            | cons q r => exact (foldH_right c2 ch).symm
          · exact (foldH_right c2 ch).symm
end
end Go.Sg
