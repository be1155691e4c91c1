/- How a list is shown to begin another one, in plain words: from the top down, and by ways. No program in sight. -/
import Derived.Test.YtmbifokiebjmmaaDoorLogT
set_option linter.unusedVariables false
set_option linter.unusedSimpArgs false
namespace Go.Sg
section
variable {α : Type} (P : α → α → α)
def lastB (w : Bool) (d : α) (p : List α) : Option (α × α) := if w = true then (if p = [] then some (d, d) else none) else
  match p with
  | [z] => some (z, z)
  | _ => none
/-- The two roots that follow from a part. -/
def bothH : Nat → Nat → Nat → Bool → α → List α → Option (α × α)
  | 0, _, _, w, d, p => lastB w d p
  | h + 1, n, m, w, d, p => if m = n then lastB w d p else if n ≤ 2 ^ h then bothH h n m w d p else
      match p.getLast? with
      | none => none
      | some z => if m ≤ 2 ^ h then (bothH h (2 ^ h) m w d p.dropLast).map (fun x => (x.1, P x.2 z)) else (bothH h (n - 2 ^ h) (m - 2 ^ h) false d p.dropLast).map (fun x => (P z x.1, P z x.2))
/-- The ways down: is the piece the left one? -/
def waysH : Nat → Nat → Nat → List Bool
  | 0, _, _ => []
  | h + 1, n, m => if m = n then [] else if n ≤ 2 ^ h then waysH h n m else if m ≤ 2 ^ h then true :: waysH h (2 ^ h) m else false :: waysH h (n - 2 ^ h) (m - 2 ^ h)
/-- The two hashes from the lowest piece up. -/
def stepW (x : α × α) (b : Bool) (z : α) : α × α := if b = true then (x.1, P x.2 z) else (P z x.1, P z x.2)
def upW : List Bool → α × α → List α → α × α
  | b :: s, x, z :: p => upW s (stepW P x b z) p
  | _, x, _ => x
def shownW (s : List Bool) (w : Bool) (d : α) (p : List α) : Option (α × α) :=
  if (w && s.all id) = true then (if p.length = s.length then some (upW P s.reverse (d, d) p) else none) else
    match p with
    | [] => none
    | z :: r => if r.length = s.length then some (upW P s.reverse (z, z) r) else none
end
section
variable {α : Type} {P : α → α → α}
theorem upW_snoc : ∀ (s : List Bool) (x : α × α) (p : List α) (b : Bool) (z : α), p.length = s.length → upW P (s ++ [b]) x (p ++ [z]) = stepW P (upW P s x p) b z
  | [], x, [], b, z, _ => rfl
  | c :: s, x, y :: p, b, z, h => by
    simp only [List.length_cons, Nat.add_right_cancel_iff] at h
    exact upW_snoc s (stepW P x c y) p b z h
  | [], x, y :: p, b, z, h => by simp at h
  | c :: s, x, [], b, z, h => by simp at h
theorem bothH_same {h n : Nat} {w : Bool} {d : α} {p : List α} : bothH P h n n w d p = lastB w d p := by
  cases h with
  | zero => rfl
  | succ h => rw [bothH, if_pos rfl]
theorem bothH_succ {h n m : Nat} {w : Bool} {d : α} {p : List α} (hn : n ≤ 2 ^ h) : bothH P (h + 1) n m w d p = bothH P h n m w d p := by
  by_cases e : m = n
  · subst e; rw [bothH_same, bothH_same]
  · rw [bothH, if_neg e, if_pos hn]
theorem bothH_any {h h' n m : Nat} {w : Bool} {d : α} {p : List α} (h1 : n ≤ 2 ^ h) (h2 : n ≤ 2 ^ h') : bothH P h n m w d p = bothH P h' n m w d p := by
  have add : ∀ (h k : Nat), n ≤ 2 ^ h → bothH P (h + k) n m w d p = bothH P h n m w d p := by
    intro h k hn
    induction k with
    | zero => rfl
    | succ k ih => rw [← Nat.add_assoc, bothH_succ (Nat.le_trans hn (Nat.pow_le_pow_right (by omega) (by omega))), ih]
  by_cases c : h ≤ h'
  · obtain ⟨k, rfl⟩ : ∃ k, h' = h + k := ⟨h' - h, by omega⟩
    rw [add h k h1]
  · obtain ⟨k, rfl⟩ : ∃ k, h = h' + k := ⟨h - h', by omega⟩
    rw [add h' k h2]
theorem bothH_nil {n m : Nat} {w : Bool} {d : α} (hne : m ≠ n) : ∀ h, n ≤ 2 ^ h → m ≤ n → 1 ≤ m → bothH P h n m w d [] = none
  | 0, hn, hm, h1 => by omega
  | h + 1, hn, hm, h1 => by
    rw [bothH, if_neg hne]
    by_cases c : n ≤ 2 ^ h
    · rw [if_pos c, bothH_nil hne h c hm h1]
    · rw [if_neg c]; rfl
theorem bothH_left {h n m : Nat} {w : Bool} {d z : α} {p : List α} (hn : ¬ n ≤ 2 ^ h) (hm : m ≤ 2 ^ h) : bothH P (h + 1) n m w d (p ++ [z]) = (bothH P h (2 ^ h) m w d p).map (fun x => (x.1, P x.2 z)) := by
  rw [bothH, if_neg (by omega), if_neg hn, List.getLast?_concat, List.dropLast_concat]
  simp only [hm, if_true]
theorem bothH_right {h n m : Nat} {w : Bool} {d z : α} {p : List α} (hn : ¬ n ≤ 2 ^ h) (hmn : m ≠ n) (hm : ¬ m ≤ 2 ^ h) : bothH P (h + 1) n m w d (p ++ [z]) = (bothH P h (n - 2 ^ h) (m - 2 ^ h) false d p).map (fun x => (P z x.1, P z x.2)) := by
  rw [bothH, if_neg hmn, if_neg hn, List.getLast?_concat, List.dropLast_concat]
  simp only [hm, if_false]
theorem shownW_nil (w : Bool) (d : α) (p : List α) : shownW P [] w d p = lastB w d p := by
  unfold shownW lastB
  cases w
  · simp only [Bool.false_and, Bool.false_eq_true, if_false]
    match p with
    | [] => rfl
    | [z] => rfl
    | z :: y :: r => simp
  · simp only [List.all_nil, Bool.and_self, if_true]
    match p with
    | [] => rfl
    | z :: r => simp
theorem shownW_none (b : Bool) (s : List Bool) (w : Bool) (d : α) : shownW P (b :: s) w d [] = none := by
  unfold shownW
  split
  · simp
  · rfl
theorem shownW_snoc (b : Bool) (s : List Bool) (w : Bool) (d z : α) (p : List α) : shownW P (b :: s) w d (p ++ [z]) = (shownW P s (w && b) d p).map fun x => stepW P x b z := by
  unfold shownW
  have e : (w && (b :: s).all id) = (w && b && s.all id) := by simp [List.all_cons, Bool.and_assoc]
  rw [e]
  by_cases c : (w && b && s.all id) = true
  · rw [if_pos c, if_pos c]
    by_cases hl : p.length = s.length
    · rw [if_pos hl, if_pos (by simp [hl]), List.reverse_cons, upW_snoc _ _ _ _ _ (by rw [List.length_reverse]; exact hl)]
      rfl
    · rw [if_neg hl, if_neg (by simp; exact hl)]
      rfl
  · rw [if_neg c, if_neg c]
    match p with
    | [] => simp
    | y :: r =>
      simp only [List.cons_append]
      by_cases hl : r.length = s.length
      · rw [if_pos hl, if_pos (by simp [hl]), List.reverse_cons, upW_snoc _ _ _ _ _ (by rw [List.length_reverse]; exact hl)]
        rfl
      · rw [if_neg hl, if_neg (by simp; exact hl)]
        rfl
/-- The way down and up again tells what the recursion tells. -/
theorem bothH_ways : ∀ (h n m : Nat) (w : Bool) (d : α) (p : List α), n ≤ 2 ^ h → m ≤ n → 1 ≤ m → bothH P h n m w d p = shownW P (waysH h n m) w d p
  | 0, n, m, w, d, p, hn, hm, h1 => (shownW_nil w d p).symm
  | h + 1, n, m, w, d, p, hn, hm, h1 => by
    have e1 := pow2_succ h
    by_cases e : m = n
    · subst e
      rw [bothH_same, waysH, if_pos rfl, shownW_nil]
    · rw [waysH, if_neg e]
      by_cases c : n ≤ 2 ^ h
      · rw [if_pos c, bothH_succ c, bothH_ways h n m w d p c hm h1]
      · rw [if_neg c]
        by_cases cm : m ≤ 2 ^ h
        · rw [if_pos cm]
          rcases snoc_cases p with rfl | ⟨q, z, rfl⟩
          · rw [shownW_none, bothH_nil e _ hn hm h1]
          · rw [bothH_left c cm, shownW_snoc, bothH_ways h (2 ^ h) m w d q (Nat.le_refl _) cm h1, Bool.and_true]
            rfl
        · rw [if_neg cm]
          rcases snoc_cases p with rfl | ⟨q, z, rfl⟩
          · rw [shownW_none, bothH_nil e _ hn hm h1]
          · rw [bothH_right c e cm, shownW_snoc, bothH_ways h (n - 2 ^ h) (m - 2 ^ h) false d q (by omega) (by omega) (by omega), Bool.and_false]
            rfl
end
end Go.Sg
