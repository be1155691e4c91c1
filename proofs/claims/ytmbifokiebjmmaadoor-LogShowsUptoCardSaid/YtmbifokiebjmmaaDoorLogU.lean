/- The texts that a fold hashes; two folds to one root clash. No program in sight. -/
import Derived.Test.YtmbifokiebjmmaaDoorLogT
set_option linter.unusedVariables false
set_option linter.unusedSimpArgs false
namespace Go.Sg
section
variable {α τ : Type} (T : α → α → τ) (S : τ → α)
/-- The texts that a fold hashes, the lowest first; the hash on top; is the proof used up? -/
def runT : Nat → Nat → Nat → α → List α → Option (List τ × α × Bool)
  | 0, _, _, d, p => some ([], d, p.isEmpty)
  | h + 1, m, i, d, p => if m = 0 then some ([], d, p.isEmpty) else
      if i % 2 = 1 ∨ i < m then
        match p with
        | [] => none
        | q :: r => (runT h (m / 2) (i / 2) (S (if i % 2 = 1 then T q d else T d q)) r).map fun x => ((if i % 2 = 1 then T q d else T d q) :: x.1, x.2)
      else runT h (m / 2) (i / 2) d p
def topT (x : Option (List τ × α × Bool)) : Option α :=
  match x with
  | some (_, d, true) => some d
  | _ => none
end
section
variable {α τ : Type} {T : α → α → τ} {S : τ → α} {P : α → α → α}
theorem runT_succ (h m i : Nat) (d : α) (p : List α) : runT T S (h + 1) m i d p = if m = 0 then some ([], d, p.isEmpty) else
      if i % 2 = 1 ∨ i < m then
        match p with
        | [] => none
        | q :: r => (runT T S h (m / 2) (i / 2) (S (if i % 2 = 1 then T q d else T d q)) r).map fun x => ((if i % 2 = 1 then T q d else T d q) :: x.1, x.2)
      else runT T S h (m / 2) (i / 2) d p := rfl
theorem runT_zero (h i : Nat) (d : α) (p : List α) : runT T S h 0 i d p = some ([], d, p.isEmpty) := by
  cases h with
  | zero => rfl
  | succ h => rw [runT_succ, if_pos rfl]
theorem topT_map (t : τ) (x : Option (List τ × α × Bool)) : topT (x.map fun x => (t :: x.1, x.2)) = topT x := by
  match x with
  | none => rfl
  | some (a, b, true) => rfl
  | some (a, b, false) => rfl
theorem foldH_runT (hP : ∀ a b, S (T a b) = P a b) : ∀ (h m i : Nat) (d : α) (p : List α), m + 1 ≤ 2 ^ h → i ≤ m → foldH P h (m + 1) i d p = topT (runT T S h m i d p)
  | 0, m, i, d, p, hm, hi => by
    cases p with
    | nil => rfl
    | cons q r => simp [foldH, runT, topT]
  | h + 1, m, i, d, p, hm, hi => by
    have e1 := pow2_succ h
    rw [foldH_up h (m + 1) i d p hm (by omega)]
    unfold stepF
    by_cases c : m = 0
    · subst c
      obtain rfl : i = 0 := by omega
      rw [if_neg (by omega), runT_zero, show (0 + 1 + 1) / 2 = 0 + 1 from rfl, foldH_runT hP h 0 (0 / 2) d p (by have := Nat.one_le_two_pow (n := h); omega) (by omega), runT_zero]
    · rw [runT_succ, if_neg c, show (m + 1 + 1) / 2 = m / 2 + 1 by omega]
      by_cases ci : i % 2 = 1 ∨ i < m
      · rw [if_pos (by omega), if_pos ci]
        cases p with
        | nil => rfl
        | cons q r =>
          simp only []
          rw [topT_map, foldH_runT hP h (m / 2) (i / 2) _ r (by omega) (by omega)]
          congr 2
          split <;> rw [hP]
      · rw [if_neg (by omega), if_neg ci, foldH_runT hP h (m / 2) (i / 2) d p (by omega) (by omega)]
/-- Two folds to one root from unlike leaves: at some step two unlike texts have one hash. -/
theorem clash_runT (G : α → Prop) (inj : ∀ a b a' b', G a → G b → G a' → G b' → T a b = T a' b' → a = a' ∧ b = b') (hS : ∀ a b, G a → G b → G (S (T a b))) : ∀ (h m i : Nat) (d d' : α) (p p' : List α) (ts ts' : List τ) (x : α) (o o' : Bool),
    G d → G d' → (∀ q ∈ p, G q) → (∀ q ∈ p', G q) → runT T S h m i d p = some (ts, x, o) → runT T S h m i d' p' = some (ts', x, o') → d ≠ d' →
    ∃ (j : Nat) (t t' : τ), ts[j]? = some t ∧ ts'[j]? = some t' ∧ t ≠ t' ∧ S t = S t'
  | 0, m, i, d, d', p, p', ts, ts', x, o, o', g, g', gp, gp', h1, h2, hne => by
    simp only [runT, Option.some.injEq, Prod.mk.injEq] at h1 h2
    exact absurd (h1.2.1.trans h2.2.1.symm) hne
  | h + 1, m, i, d, d', p, p', ts, ts', x, o, o', g, g', gp, gp', h1, h2, hne => by
    by_cases c : m = 0
    · subst c
      rw [runT_zero] at h1 h2
      simp only [Option.some.injEq, Prod.mk.injEq] at h1 h2
      exact absurd (h1.2.1.trans h2.2.1.symm) hne
    · rw [runT_succ, if_neg c] at h1 h2
      by_cases ci : i % 2 = 1 ∨ i < m
      · rw [if_pos ci] at h1 h2
        cases p with
        | nil => cases h1
        | cons q r =>
          cases p' with
          | nil => cases h2
          | cons q' r' =>
            simp only [Option.map_eq_some_iff] at h1 h2
            obtain ⟨⟨us, y, b⟩, h1, e1⟩ := h1
            obtain ⟨⟨us', y', b'⟩, h2, e2⟩ := h2
            simp only [Prod.mk.injEq] at e1 e2
            obtain ⟨rfl, rfl, rfl⟩ := e1
            obtain ⟨rfl, rfl, rfl⟩ := e2
            have gq := gp q (List.mem_cons_self ..)
            have gq' := gp' q' (List.mem_cons_self ..)
            have tn : (if i % 2 = 1 then T q d else T d q) ≠ (if i % 2 = 1 then T q' d' else T d' q') := by
              split
              · exact fun e => hne (inj _ _ _ _ gq g gq' g' e).2
              · exact fun e => hne (inj _ _ _ _ g gq g' gq' e).1
            by_cases he : S (if i % 2 = 1 then T q d else T d q) = S (if i % 2 = 1 then T q' d' else T d' q')
            · exact ⟨0, _, _, rfl, rfl, tn, he⟩
            · obtain ⟨j, t, t', a1, a2, a3, a4⟩ := clash_runT G inj hS h _ _ _ _ r r' us us' y' b b' (by split <;> exact hS _ _ ‹_› ‹_›) (by split <;> exact hS _ _ ‹_› ‹_›) (fun z hz => gp z (List.mem_cons_of_mem _ hz)) (fun z hz => gp' z (List.mem_cons_of_mem _ hz)) h1 h2 he
              exact ⟨j + 1, t, t', by simpa using a1, by simpa using a2, a3, a4⟩
      · rw [if_neg ci] at h1 h2
        exact clash_runT G inj hS h _ _ _ _ p p' ts ts' x o o' g g' gp gp' h1 h2 hne
end
end Go.Sg
