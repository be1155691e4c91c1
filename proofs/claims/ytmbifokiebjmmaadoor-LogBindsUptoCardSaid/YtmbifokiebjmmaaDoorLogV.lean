/- signetlaw36.LogBinds by its contract. -/
import Derived.Test.YtmbifokiebjmmaaDoorLogM
set_option linter.unusedVariables false
set_option linter.unusedSimpArgs false
namespace Go.Sg
open Go.RowKit
section
variable {α τ : Type} {T : α → α → τ} {S : τ → α}
theorem runT_len : ∀ (h m i : Nat) (d d' : α) (p p' : List α) (x y : List τ × α × Bool), runT T S h m i d p = some x → runT T S h m i d' p' = some y → x.1.length = y.1.length
  | 0, m, i, d, d', p, p', x, y, h1, h2 => by
    simp only [runT, Option.some.injEq] at h1 h2
    rw [← h1, ← h2]
  | h + 1, m, i, d, d', p, p', x, y, h1, h2 => by
    rw [runT_succ] at h1 h2
    by_cases c : m = 0
    · rw [if_pos c] at h1 h2
      simp only [Option.some.injEq] at h1 h2
      rw [← h1, ← h2]
    · rw [if_neg c] at h1 h2
      by_cases ci : i % 2 = 1 ∨ i < m
      · rw [if_pos ci] at h1 h2
        cases p with
        | nil => cases h1
        | cons q r =>
          cases p' with
          | nil => cases h2
          | cons q' r' =>
            simp only [Option.map_eq_some_iff] at h1 h2
            obtain ⟨x', h1, rfl⟩ := h1
            obtain ⟨y', h2, rfl⟩ := h2
            simp only [List.length_cons]
            rw [runT_len h _ _ _ _ _ _ _ _ h1 h2]
      · rw [if_neg ci] at h1 h2
        exact runT_len h _ _ _ _ _ _ _ _ h1 h2
theorem runT_texts (G : α → Prop) (hS : ∀ a b, G a → G b → G (S (T a b))) : ∀ (h m i : Nat) (d : α) (p : List α) (x : List τ × α × Bool), G d → (∀ q ∈ p, G q) → runT T S h m i d p = some x → ∀ t ∈ x.1, ∃ a b, G a ∧ G b ∧ t = T a b
  | 0, m, i, d, p, x, gd, gp, h1 => by
    simp only [runT, Option.some.injEq] at h1
    rw [← h1]
    intro t ht
    cases ht
  | h + 1, m, i, d, p, x, gd, gp, h1 => by
    rw [runT_succ] at h1
    by_cases c : m = 0
    · rw [if_pos c] at h1
      simp only [Option.some.injEq] at h1
      rw [← h1]
      intro t ht
      cases ht
    · rw [if_neg c] at h1
      by_cases ci : i % 2 = 1 ∨ i < m
      · rw [if_pos ci] at h1
        cases p with
        | nil => cases h1
        | cons q r =>
          simp only [Option.map_eq_some_iff] at h1
          obtain ⟨x', h1, rfl⟩ := h1
          have gq := gp q (List.mem_cons_self ..)
          have gt : ∃ a b, G a ∧ G b ∧ (if i % 2 = 1 then T q d else T d q) = T a b := by
            split
            · exact ⟨q, d, gq, gd, rfl⟩
            · exact ⟨d, q, gd, gq, rfl⟩
          intro t ht
          rcases List.mem_cons.1 ht with rfl | ht
          · exact gt
          · refine runT_texts G hS h _ _ _ r x' ?_ (fun z hz => gp z (List.mem_cons_of_mem _ hz)) h1 t ht
            obtain ⟨a, b, ga, gb, e⟩ := gt
            rw [e]
            exact hS a b ga gb
      · rw [if_neg ci] at h1
        exact runT_texts G hS h _ _ _ p x gd gp h1
end
theorem textD_inj {a b a' b' : List Int} (ha : a.length = 32) (ha' : a'.length = 32) (h : textD a b = textD a' b') : a = a' ∧ b = b' := by
  unfold textD at h
  simp only [List.cons.injEq, true_and] at h
  exact List.append_inj h (by rw [ha, ha'])
theorem topT_some {τ α : Type} {x : Option (List τ × α × Bool)} {r : α} (h : topT x = some r) : ∃ ts, x = some (ts, r, true) := by
  match x with
  | none => simp [topT] at h
  | some (ts, d, true) => simp [topT] at h; exact ⟨ts, by rw [h]⟩
  | some (ts, d, false) => simp [topT] at h
/-- Two leaves that are shown by one root clash. -/
theorem binds {root one two : List Int} {n i : Int} {p q : List (List Int)} (u1 : U8 one) (u2 : U8 two) (up : ∀ s ∈ p, U8 s) (uq : ∀ s ∈ q, U8 s) (h1 : checkP root n i one p) (h2 : checkP root n i two q) (hne : one ≠ two) (hn : n ≤ 9223372036854775807) :
    ∃ ts ts', runD 63 (n.toNat - 1) i.toNat one p = some (ts, root, true) ∧ runD 63 (n.toNat - 1) i.toNat two q = some (ts', root, true) ∧ ts.length = ts'.length ∧
      ∃ j, j < ts.length ∧ ts.getD j [] ≠ ts'.getD j [] ∧ hashT (ts.getD j []) = hashT (ts'.getD j []) := by
  obtain ⟨⟨_, l1⟩, p32, h0, hin, f1⟩ := h1
  obtain ⟨⟨_, l2⟩, q32, _, _, f2⟩ := h2
  have e1 := foldH_runT (T := textD) (S := shaD) (P := pairD) (fun _ _ => rfl) 63 (n.toNat - 1) i.toNat one p (by omega) (by omega)
  have e2 := foldH_runT (T := textD) (S := shaD) (P := pairD) (fun _ _ => rfl) 63 (n.toNat - 1) i.toNat two q (by omega) (by omega)
  rw [show n.toNat - 1 + 1 = n.toNat by omega] at e1 e2
  rw [f1] at e1
  rw [f2] at e2
  obtain ⟨ts, r1⟩ := topT_some e1.symm
  obtain ⟨ts', r2⟩ := topT_some e2.symm
  have ll := runT_len _ _ _ _ _ _ _ _ _ r1 r2
  simp only at ll
  have hS : ∀ a b : List Int, a.length = 32 → b.length = 32 → (shaD (textD a b)).length = 32 := fun a b _ _ => (shaD_dig _).1
  obtain ⟨j, t, t', a1, a2, a3, a4⟩ := clash_runT (fun a => a.length = 32) (fun a b a' b' ha _ ha' _ h => textD_inj ha ha' h) hS _ _ _ _ _ _ _ _ _ _ _ _ l1 l2 p32 q32 r1 r2 hne
  have x1 := runT_texts (fun a : List Int => a.length = 32) hS _ _ _ _ _ _ l1 p32 r1
  have x2 := runT_texts (fun a : List Int => a.length = 32) hS _ _ _ _ _ _ l2 q32 r2
  obtain ⟨c, d, hc, hd, rfl⟩ := x1 t (List.mem_of_getElem? a1)
  obtain ⟨c', d', hc', hd', rfl⟩ := x2 t' (List.mem_of_getElem? a2)
  refine ⟨ts, ts', r1, r2, ll, j, (List.getElem?_eq_some_iff.1 a1).1, ?_, ?_⟩
  · rw [List.getD_eq_getElem?_getD, List.getD_eq_getElem?_getD, a1, a2]
    exact a3
  · rw [List.getD_eq_getElem?_getD, List.getD_eq_getElem?_getD, a1, a2]
    show hashT (textD c d) = hashT (textD c' d')
    rw [hashT_text hc hd, hashT_text hc' hd']
    exact a4
end Go.Sg
