import Derived.Test.YtmbifokiebjmmaaDoorRows
import Derived.Test.YtmbifokiebjmmaaDoorZ1
import Derived.WalkKit
import Derived.ProofKit
import Derived.OpenShut
import Derived.ShutString
import Derived.ChangeOld
import Derived.Below
import Derived.SizedLaws
import Derived.JoinedCond
import Derived.Deep.CondSized
/- What a law's frame needs: slices that came in, as the contracts read them; what the bound gives. -/
set_option linter.unusedVariables false
set_option linter.unusedSimpArgs false
namespace Go.Proofs.YtmbifokiebjmmaaDoor
open Go.RowKit Go.Sg

theorem own_knob : ownKnob Tryd.prog.godebug = none := by kernel_rfl
theorem laid_out : laidOutB Tryd.prog = true := by kernel_rfl

/-- A slice of integers that came in: nil; or at a row of 'cap' cells. -/
def IsRow (k : IntKind) (w : World) (a : Option Addr) (len cap : Nat) (zs : List Int) : Prop :=
  (a = none ∧ len = 0 ∧ cap = 0 ∧ zs = []) ∨
  ∃ x, a = some x ∧ len ≤ cap ∧ cap ≤ maxLen ∧ zs.length = cap ∧ (∀ i, i < zs.length → w.cell? (x.add i) = some (.int k (zs.getD i 0))) ∧ ∀ n ∈ zs, (Lit.int k n).wf = true

theorem IsRow.len {k : IntKind} {w : World} {a : Option Addr} {len cap : Nat} {zs : List Int} (h : IsRow k w a len cap zs) : (zs.take len).length = len := by
  rcases h with ⟨_, rfl, _, rfl⟩ | ⟨x, _, hl, _, hz, _⟩
  · simp
  · simp; omega
theorem IsRow.sl {k : IntKind} {w : World} {a : Option Addr} {len cap : Nat} {zs : List Int} (h : IsRow k w a len cap zs) : Sl k w a cap (zs.take len) := by
  have hlen := h.len
  rcases h with ⟨rfl, rfl, rfl, rfl⟩ | ⟨⟨b, off, spot⟩, rfl, hl, hm, hz, hc, _⟩
  · simp; exact .nil _ _ _ _ (by omega)
  · refine ⟨by omega, by unfold maxLen at hm; omega, fun hp => ?_⟩
    rw [hlen] at hp
    have h0 := hc 0 (by omega)
    have hs : spot = none := by simpa [Addr.add] using World.cell?_spot h0
    subst hs
    refine ⟨b, off, rfl, fun j hj => ?_⟩
    rw [hlen] at hj
    have hcj := hc j (by omega)
    have hadd : (⟨b, off, none⟩ : Addr).add j = ⟨b, off + j, none⟩ := by unfold Addr.add; split <;> simp_all
    rw [hadd] at hcj
    rw [hcj, nth_take _ _ _ hj]
    rfl
theorem IsRow.u8 {w : World} {a : Option Addr} {len cap : Nat} {zs : List Int} (h : IsRow .u8 w a len cap zs) : U8 (zs.take len) := by
  rcases h with ⟨_, _, _, rfl⟩ | ⟨x, _, hl, _, hz, _, hw⟩
  · simpa using InR.nil (by omega)
  · refine InR.take (by omega) (.of_mem (by omega) fun n hn => ?_) _
    have := hw n hn
    simpa [Lit.wf, IntKind.min, IntKind.max, IntKind.signed, IntKind.bits] using this
theorem IsRow.u32 {w : World} {a : Option Addr} {len cap : Nat} {zs : List Int} (h : IsRow .u32 w a len cap zs) : U32 (zs.take len) := by
  rcases h with ⟨_, _, _, rfl⟩ | ⟨x, _, hl, _, hz, _, hw⟩
  · simpa using InR.nil (by omega)
  · refine InR.take (by omega) (.of_mem (by omega) fun n hn => ?_) _
    have := hw n hn
    simpa [Lit.wf, IntKind.min, IntKind.max, IntKind.signed, IntKind.bits] using this

/-- The law's end: true, and nothing that was there has turned. -/
def TruePost (w : World) (e : Ending) (w' : World) : Prop := e = .returned (.bool true) ∧ Below w.heap.size w w'

theorem bulk_one {H : Type} (d : DataW H) : 1 ≤ Rows.uptoBulk d := by
  cases d with
  | lit l => cases l <;> simp [Rows.uptoBulk]
  | nil => simp [Rows.uptoBulk]
  | ptr d => simp [Rows.uptoBulk]
  | slice elems spare => simp [Rows.uptoBulk]
  | agg parts => simp [Rows.uptoBulk]
  | iface t d => simp [Rows.uptoBulk]
  | map entries => simp [Rows.uptoBulk]
  | held h => simp [Rows.uptoBulk]
theorem bulk_len {H : Type} (l : List (DataW H)) : l.length ≤ Rows.uptoBulkAll l := by
  induction l with
  | nil => simp [Rows.uptoBulkAll]
  | cons x r ih => have := bulk_one x; simp only [Rows.uptoBulkAll, List.length_cons]; omega
theorem bulk_slice {H : Type} (elems spare : List (DataW H)) : elems.length + spare.length + 1 ≤ Rows.uptoBulk (.slice elems spare) := by
  have h1 := bulk_len elems
  have h2 := bulk_len spare
  simp only [Rows.uptoBulk]
  omega
theorem bulk_all {H : Type} {l : List (DataW H)} (hk : Rows.uptoSmall H l = true) : Rows.uptoBulkAll l ≤ 1048576 := of_decide_eq_true hk
end Go.Proofs.YtmbifokiebjmmaaDoor
/- Merkle trees in plain words: the tree that splits at the greatest power of two, and the same one by levels. No program in sight. -/
set_option linter.unusedVariables false
set_option linter.unusedSimpArgs false
namespace Go.Sg
section
variable {α : Type} (P : α → α → α) (e : α)
/-- The level above: side by side in pairs, the last one alone. -/
def upL : List α → List α
  | a :: b :: l => P a b :: upL l
  | [a] => [a]
  | [] => []
/-- The root of at most 2^h leaves. -/
def rootH : Nat → List α → α
  | 0, l => l.headD e
  | h + 1, l => if l.length ≤ 2 ^ h then rootH h l else P (rootH h (l.take (2 ^ h))) (rootH h (l.drop (2 ^ h)))
/-- The hashes that show leaf i. -/
def pathH : Nat → List α → Nat → List α
  | 0, _, _ => []
  | h + 1, l, i => if l.length ≤ 2 ^ h then pathH h l i else
      if i < 2 ^ h then pathH h (l.take (2 ^ h)) i ++ [rootH P e h (l.drop (2 ^ h))] else pathH h (l.drop (2 ^ h)) (i - 2 ^ h) ++ [rootH P e h (l.take (2 ^ h))]
/-- The root that follows from a leaf and a proof. -/
def foldH : Nat → Nat → Nat → α → List α → Option α
  | 0, _, _, d, p => if p = [] then some d else none
  | h + 1, n, i, d, p => if n ≤ 2 ^ h then foldH h n i d p else
      match p.getLast? with
      | none => none
      | some z => if i < 2 ^ h then (foldH h (2 ^ h) i d p.dropLast).map (P · z) else (foldH h (n - 2 ^ h) (i - 2 ^ h) d p.dropLast).map (P z ·)
end
section
variable {α : Type} {P : α → α → α} {e : α}
theorem upL_len : ∀ l : List α, (upL P l).length = (l.length + 1) / 2
  | [] => by simp [upL]
  | [a] => by simp [upL]
  | a :: b :: l => by
    simp only [upL, List.length_cons, upL_len l]
    omega
theorem upL_take : ∀ (n : Nat) (l : List α), (upL P l).take n = upL P (l.take (2 * n))
  | 0, l => by simp [upL]
  | n + 1, [] => by simp [upL]
  | n + 1, [a] => by simp [upL, show 2 * (n + 1) = 2 * n + 1 + 1 by omega]
  | n + 1, a :: b :: l => by
    rw [show 2 * (n + 1) = 2 * n + 1 + 1 by omega]
    simp only [upL, List.take_succ_cons]
    rw [upL_take n l]
theorem upL_drop : ∀ (n : Nat) (l : List α), (upL P l).drop n = upL P (l.drop (2 * n))
  | 0, l => by simp
  | n + 1, [] => by simp [upL]
  | n + 1, [a] => by simp [upL, show 2 * (n + 1) = 2 * n + 1 + 1 by omega]
  | n + 1, a :: b :: l => by
    rw [show 2 * (n + 1) = 2 * n + 1 + 1 by omega]
    simp only [upL, List.drop_succ_cons]
    rw [upL_drop n l]
theorem pow2_succ (h : Nat) : 2 ^ (h + 1) = 2 * 2 ^ h := by rw [Nat.pow_succ]; omega
theorem rootH_succ {h : Nat} {l : List α} (hl : l.length ≤ 2 ^ h) : rootH P e (h + 1) l = rootH P e h l := by rw [rootH, if_pos hl]
theorem rootH_split {h : Nat} {l : List α} (hl : 2 ^ h < l.length) : rootH P e (h + 1) l = P (rootH P e h (l.take (2 ^ h))) (rootH P e h (l.drop (2 ^ h))) := by rw [rootH, if_neg (by omega)]
theorem rootH_add {h : Nat} {l : List α} (hl : l.length ≤ 2 ^ h) : ∀ k, rootH P e (h + k) l = rootH P e h l
  | 0 => rfl
  | k + 1 => by
    rw [← Nat.add_assoc, rootH_succ (Nat.le_trans hl (Nat.pow_le_pow_right (by omega) (by omega))), rootH_add hl k]
theorem rootH_any {h h' : Nat} {l : List α} (h1 : l.length ≤ 2 ^ h) (h2 : l.length ≤ 2 ^ h') : rootH P e h l = rootH P e h' l := by
  by_cases c : h ≤ h'
  · obtain ⟨k, rfl⟩ : ∃ k, h' = h + k := ⟨h' - h, by omega⟩
    rw [rootH_add h1]
  · obtain ⟨k, rfl⟩ : ∃ k, h = h' + k := ⟨h - h', by omega⟩
    rw [rootH_add h2]
/-- One level up the root is the same. -/
theorem rootH_up : ∀ (h : Nat) (l : List α), l.length ≤ 2 ^ (h + 1) → rootH P e (h + 1) l = rootH P e h (upL P l)
  | 0, l, hl => by
    match l with
    | [] => rfl
    | [a] => rfl
    | [a, b] => rfl
    | a :: b :: c :: l => simp at hl
  | h + 1, l, hl => by
    have e1 := pow2_succ h
    have e2 := pow2_succ (h + 1)
    by_cases c : l.length ≤ 2 ^ (h + 1)
    · rw [rootH_succ c, rootH_up h l c, rootH_succ (by rw [upL_len]; omega)]
    · rw [rootH_split (l := l) (by omega), rootH_split (l := upL P l) (by rw [upL_len]; omega), upL_take, upL_drop, ← e1, rootH_up h (l.take _) (by rw [List.length_take]; omega), rootH_up h (l.drop _) (by rw [List.length_drop]; omega)]
/-- The one beside place i. -/
def besideL (l : List α) (i : Nat) : List α := (l[if i % 2 = 1 then i - 1 else i + 1]?).toList
theorem besideL_take {l : List α} {i k : Nat} (hi : i < 2 * k) : besideL (l.take (2 * k)) i = besideL l i := by
  unfold besideL
  rw [List.getElem?_take, if_pos (by split <;> omega)]
theorem besideL_drop {l : List α} {i k : Nat} (hi : 2 * k ≤ i) : besideL (l.drop (2 * k)) (i - 2 * k) = besideL l i := by
  unfold besideL
  rw [List.getElem?_drop]
  congr 2
  split <;> split <;> omega
theorem pathH_succ {h i : Nat} {l : List α} (hl : l.length ≤ 2 ^ h) : pathH P e (h + 1) l i = pathH P e h l i := by rw [pathH, if_pos hl]
theorem pathH_left {h i : Nat} {l : List α} (hl : 2 ^ h < l.length) (hi : i < 2 ^ h) : pathH P e (h + 1) l i = pathH P e h (l.take (2 ^ h)) i ++ [rootH P e h (l.drop (2 ^ h))] := by rw [pathH, if_neg (by omega), if_pos hi]
theorem pathH_right {h i : Nat} {l : List α} (hl : 2 ^ h < l.length) (hi : ¬ i < 2 ^ h) : pathH P e (h + 1) l i = pathH P e h (l.drop (2 ^ h)) (i - 2 ^ h) ++ [rootH P e h (l.take (2 ^ h))] := by rw [pathH, if_neg (by omega), if_neg hi]
theorem pathH_add {h i : Nat} {l : List α} (hl : l.length ≤ 2 ^ h) : ∀ k, pathH P e (h + k) l i = pathH P e h l i
  | 0 => rfl
  | k + 1 => by
    rw [← Nat.add_assoc, pathH_succ (Nat.le_trans hl (Nat.pow_le_pow_right (by omega) (by omega))), pathH_add hl k]
theorem pathH_any {h h' i : Nat} {l : List α} (h1 : l.length ≤ 2 ^ h) (h2 : l.length ≤ 2 ^ h') : pathH P e h l i = pathH P e h' l i := by
  by_cases c : h ≤ h'
  · obtain ⟨k, rfl⟩ : ∃ k, h' = h + k := ⟨h' - h, by omega⟩
    rw [pathH_add h1]
  · obtain ⟨k, rfl⟩ : ∃ k, h = h' + k := ⟨h - h', by omega⟩
    rw [pathH_add h2]
/-- One level up: the one beside comes first. -/
theorem pathH_up : ∀ (h : Nat) (l : List α) (i : Nat), l.length ≤ 2 ^ (h + 1) → i < l.length → pathH P e (h + 1) l i = besideL l i ++ pathH P e h (upL P l) (i / 2)
  | 0, l, i, hl, hi => by
    match l with
    | [] => simp at hi
    | [a] =>
      obtain rfl : i = 0 := by simp at hi; exact hi
      rfl
    | [a, b] =>
      obtain rfl | rfl : i = 0 ∨ i = 1 := by simp at hi; omega
      · rfl
      · rfl
    | a :: b :: c :: l => simp at hl
  | h + 1, l, i, hl, hi => by
    have e1 := pow2_succ h
    have e2 := pow2_succ (h + 1)
    by_cases c : l.length ≤ 2 ^ (h + 1)
    · rw [pathH_succ c, pathH_up h l i c hi, pathH_succ (by rw [upL_len]; omega)]
    · by_cases ci : i < 2 ^ (h + 1)
      · rw [pathH_left (l := l) (by omega) ci, pathH_left (l := upL P l) (by rw [upL_len]; omega) (show i / 2 < 2 ^ h by omega), upL_take, upL_drop, ← e1, pathH_up h (l.take _) i (by rw [List.length_take]; omega) (by rw [List.length_take]; omega), rootH_up h (l.drop _) (by rw [List.length_drop]; omega), e1, besideL_take (by omega), List.append_assoc]
      · rw [pathH_right (l := l) (by omega) ci, pathH_right (l := upL P l) (by rw [upL_len]; omega) (show ¬ i / 2 < 2 ^ h by omega), upL_take, upL_drop, ← e1, pathH_up h (l.drop _) _ (by rw [List.length_drop]; omega) (by rw [List.length_drop]; omega), rootH_up h (l.take _) (by rw [List.length_take]; omega), e1, besideL_drop (by omega), List.append_assoc, show (i - 2 * 2 ^ h) / 2 = i / 2 - 2 ^ h by omega]
theorem foldH_succ {h n i : Nat} {d : α} {p : List α} (hn : n ≤ 2 ^ h) : foldH P (h + 1) n i d p = foldH P h n i d p := by rw [foldH, if_pos hn]
theorem foldH_add {h n i : Nat} {d : α} {p : List α} (hn : n ≤ 2 ^ h) : ∀ k, foldH P (h + k) n i d p = foldH P h n i d p
  | 0 => rfl
  | k + 1 => by
    rw [← Nat.add_assoc, foldH_succ (Nat.le_trans hn (Nat.pow_le_pow_right (by omega) (by omega))), foldH_add hn k]
theorem foldH_any {h h' n i : Nat} {d : α} {p : List α} (h1 : n ≤ 2 ^ h) (h2 : n ≤ 2 ^ h') : foldH P h n i d p = foldH P h' n i d p := by
  by_cases c : h ≤ h'
  · obtain ⟨k, rfl⟩ : ∃ k, h' = h + k := ⟨h' - h, by omega⟩
    rw [foldH_add h1]
  · obtain ⟨k, rfl⟩ : ∃ k, h = h' + k := ⟨h - h', by omega⟩
    rw [foldH_add h2]
theorem foldH_none {h n i : Nat} {d : α} (hn : ¬ n ≤ 2 ^ h) : foldH P (h + 1) n i d [] = none := by rw [foldH, if_neg hn]; rfl
theorem foldH_nil {n i : Nat} {d : α} (h2 : 2 ≤ n) : ∀ h, n ≤ 2 ^ h → foldH P h n i d [] = none
  | 0, hn => by omega
  | h + 1, hn => by
    by_cases c : n ≤ 2 ^ h
    · rw [foldH_succ c, foldH_nil h2 h c]
    · exact foldH_none c
theorem foldH_left {h n i : Nat} {d z : α} {p : List α} (hn : ¬ n ≤ 2 ^ h) (hi : i < 2 ^ h) : foldH P (h + 1) n i d (p ++ [z]) = (foldH P h (2 ^ h) i d p).map (P · z) := by
  rw [foldH, if_neg hn, List.getLast?_concat, List.dropLast_concat]
  simp only [hi, if_true]
theorem foldH_right {h n i : Nat} {d z : α} {p : List α} (hn : ¬ n ≤ 2 ^ h) (hi : ¬ i < 2 ^ h) : foldH P (h + 1) n i d (p ++ [z]) = (foldH P h (n - 2 ^ h) (i - 2 ^ h) d p).map (P z ·) := by
  rw [foldH, if_neg hn, List.getLast?_concat, List.dropLast_concat]
  simp only [hi, if_false]
/-- The lowest step of a fold: the hash ahead, where there is one beside. -/
def stepF (h n i : Nat) (d : α) (p : List α) : Option α :=
  if i % 2 = 1 ∨ i + 1 < n then
    match p with
    | [] => none
    | q :: r => foldH P h ((n + 1) / 2) (i / 2) (if i % 2 = 1 then P q d else P d q) r
  else foldH P h ((n + 1) / 2) (i / 2) d p
theorem snoc_cases (p : List α) : p = [] ∨ ∃ q z, p = q ++ [z] := by
  by_cases h : p = []
  · exact .inl h
  · exact .inr ⟨p.dropLast, p.getLast h, (List.dropLast_concat_getLast h).symm⟩
theorem foldH_up : ∀ (h n i : Nat) (d : α) (p : List α), n ≤ 2 ^ (h + 1) → i < n → foldH P (h + 1) n i d p = stepF (P := P) h n i d p
  | 0, n, i, d, p, hn, hi => by
    obtain rfl | rfl : n = 1 ∨ n = 2 := by simp at hn; omega
    · obtain rfl : i = 0 := by omega
      rw [foldH_succ (by omega)]
      rfl
    · have hi2 : i = 0 ∨ i = 1 := by omega
      unfold stepF
      rw [if_pos (by omega)]
      match p with
      | [] => exact foldH_none (by omega)
      | [q] =>
        rcases hi2 with rfl | rfl
        · exact foldH_left (p := []) (by omega) (by omega)
        · exact foldH_right (p := []) (by omega) (by omega)
      | q :: r :: s =>
        obtain h0 | ⟨t, z, ht⟩ := snoc_cases (r :: s)
        · cases h0
        · rw [ht]
          have e0 : foldH P 0 ((2 + 1) / 2) (i / 2) (if i % 2 = 1 then P q d else P d q) (t ++ [z]) = none := by simp [foldH]
          simp only [e0]
          rcases hi2 with rfl | rfl
          · rw [← List.cons_append, foldH_left (by omega) (by omega)]; simp [foldH]
          · rw [← List.cons_append, foldH_right (by omega) (by omega)]; simp [foldH]
  | h + 1, n, i, d, p, hn, hi => by
    have e1 := pow2_succ h
    have e2 := pow2_succ (h + 1)
    by_cases c : n ≤ 2 ^ (h + 1)
    · rw [foldH_succ c, foldH_up h n i d p c hi]
      unfold stepF
      have c2 : (n + 1) / 2 ≤ 2 ^ h := by omega
      split
      · cases p with
        | nil => rfl
        | cons q r => exact (foldH_succ c2).symm
      · exact (foldH_succ c2).symm
    · have c2 : ¬ (n + 1) / 2 ≤ 2 ^ h := by omega
      have m1 : (n + 1) / 2 - 2 ^ h = (n - 2 ^ (h + 1) + 1) / 2 := by omega
      have m2 : (2 ^ (h + 1) + 1) / 2 = 2 ^ h := by omega
      rcases snoc_cases p with rfl | ⟨q, z, rfl⟩
      · rw [foldH_none c]
        unfold stepF
        split
        · rfl
        · exact (foldH_none c2).symm
      · by_cases ci : i < 2 ^ (h + 1)
        · have ch : i / 2 < 2 ^ h := by omega
          rw [foldH_left c ci, foldH_up h (2 ^ (h + 1)) i d q (Nat.le_refl _) ci]
          unfold stepF
          rw [if_pos (show i % 2 = 1 ∨ i + 1 < n by omega), if_pos (show i % 2 = 1 ∨ i + 1 < 2 ^ (h + 1) by omega), m2]
          cases q with
          | nil => exact (foldH_none c2).symm
          | cons q r => exact (foldH_left c2 ch).symm
        · have ch : ¬ i / 2 < 2 ^ h := by omega
          have m3 : (i - 2 ^ (h + 1)) / 2 = i / 2 - 2 ^ h := by omega
          have m4 : (i - 2 ^ (h + 1)) % 2 = i % 2 := by omega
          rw [foldH_right c ci, foldH_up h (n - 2 ^ (h + 1)) (i - 2 ^ (h + 1)) d q (by omega) (by omega)]
          unfold stepF
          simp only [m3, m4, ← m1, show (i % 2 = 1 ∨ i - 2 ^ (h + 1) + 1 < n - 2 ^ (h + 1)) ↔ (i % 2 = 1 ∨ i + 1 < n) by omega]
          split
          · cases q with
            | nil => exact (foldH_none c2).symm
            | cons q r => exact (foldH_right c2 ch).symm
          · exact (foldH_right c2 ch).symm
end
end Go.Sg
/- The texts that a fold hashes; two folds to one root clash. No program in sight. -/
set_option linter.unusedVariables false
set_option linter.unusedSimpArgs false
namespace Go.Sg
section
variable {α τ : Type} (T : α → α → τ) (S : τ → α)
/-- The texts that a fold hashes, the lowest first; the hash on top; is the proof used up? -/
def runT : Nat → Nat → Nat → α → List α → Option (List τ × α × Bool)
  | 0, _, _, d, p => some ([], d, p.isEmpty)
  | h + 1, m, i, d, p => if m = 0 then some ([], d, p.isEmpty) else
      if i % 2 = 1 ∨ i < m then
        match p with
        | [] => none
        | q :: r => (runT h (m / 2) (i / 2) (S (if i % 2 = 1 then T q d else T d q)) r).map fun x => ((if i % 2 = 1 then T q d else T d q) :: x.1, x.2)
      else runT h (m / 2) (i / 2) d p
def topT (x : Option (List τ × α × Bool)) : Option α :=
  match x with
  | some (_, d, true) => some d
  | _ => none
end
section
variable {α τ : Type} {T : α → α → τ} {S : τ → α} {P : α → α → α}
theorem runT_succ (h m i : Nat) (d : α) (p : List α) : runT T S (h + 1) m i d p = if m = 0 then some ([], d, p.isEmpty) else
      if i % 2 = 1 ∨ i < m then
        match p with
        | [] => none
        | q :: r => (runT T S h (m / 2) (i / 2) (S (if i % 2 = 1 then T q d else T d q)) r).map fun x => ((if i % 2 = 1 then T q d else T d q) :: x.1, x.2)
      else runT T S h (m / 2) (i / 2) d p := rfl
theorem runT_zero (h i : Nat) (d : α) (p : List α) : runT T S h 0 i d p = some ([], d, p.isEmpty) := by
  cases h with
  | zero => rfl
  | succ h => rw [runT_succ, if_pos rfl]
theorem topT_map (t : τ) (x : Option (List τ × α × Bool)) : topT (x.map fun x => (t :: x.1, x.2)) = topT x := by
  match x with
  | none => rfl
  | some (a, b, true) => rfl
  | some (a, b, false) => rfl
theorem foldH_runT (hP : ∀ a b, S (T a b) = P a b) : ∀ (h m i : Nat) (d : α) (p : List α), m + 1 ≤ 2 ^ h → i ≤ m → foldH P h (m + 1) i d p = topT (runT T S h m i d p)
  | 0, m, i, d, p, hm, hi => by
    cases p with
    | nil => rfl
    | cons q r => simp [foldH, runT, topT]
  | h + 1, m, i, d, p, hm, hi => by
    have e1 := pow2_succ h
    rw [foldH_up h (m + 1) i d p hm (by omega)]
    unfold stepF
    by_cases c : m = 0
    · subst c
      obtain rfl : i = 0 := by omega
      rw [if_neg (by omega), runT_zero, show (0 + 1 + 1) / 2 = 0 + 1 from rfl, foldH_runT hP h 0 (0 / 2) d p (by have := Nat.one_le_two_pow (n := h); omega) (by omega), runT_zero]
    · rw [runT_succ, if_neg c, show (m + 1 + 1) / 2 = m / 2 + 1 by omega]
      by_cases ci : i % 2 = 1 ∨ i < m
      · rw [if_pos (by omega), if_pos ci]
        cases p with
        | nil => rfl
        | cons q r =>
          simp only []
          rw [topT_map, foldH_runT hP h (m / 2) (i / 2) _ r (by omega) (by omega)]
          congr 2
          split <;> rw [hP]
      · rw [if_neg (by omega), if_neg ci, foldH_runT hP h (m / 2) (i / 2) d p (by omega) (by omega)]
/-- Two folds to one root from unlike leaves: at some step two unlike texts have one hash. -/
theorem clash_runT (G : α → Prop) (inj : ∀ a b a' b', G a → G b → G a' → G b' → T a b = T a' b' → a = a' ∧ b = b') (hS : ∀ a b, G a → G b → G (S (T a b))) : ∀ (h m i : Nat) (d d' : α) (p p' : List α) (ts ts' : List τ) (x : α) (o o' : Bool),
    G d → G d' → (∀ q ∈ p, G q) → (∀ q ∈ p', G q) → runT T S h m i d p = some (ts, x, o) → runT T S h m i d' p' = some (ts', x, o') → d ≠ d' →
    ∃ (j : Nat) (t t' : τ), ts[j]? = some t ∧ ts'[j]? = some t' ∧ t ≠ t' ∧ S t = S t'
  | 0, m, i, d, d', p, p', ts, ts', x, o, o', g, g', gp, gp', h1, h2, hne => by
    simp only [runT, Option.some.injEq, Prod.mk.injEq] at h1 h2
    exact absurd (h1.2.1.trans h2.2.1.symm) hne
  | h + 1, m, i, d, d', p, p', ts, ts', x, o, o', g, g', gp, gp', h1, h2, hne => by
    by_cases c : m = 0
    · subst c
      rw [runT_zero] at h1 h2
      simp only [Option.some.injEq, Prod.mk.injEq] at h1 h2
      exact absurd (h1.2.1.trans h2.2.1.symm) hne
    · rw [runT_succ, if_neg c] at h1 h2
      by_cases ci : i % 2 = 1 ∨ i < m
      · rw [if_pos ci] at h1 h2
        cases p with
        | nil => cases h1
        | cons q r =>
          cases p' with
          | nil => cases h2
          | cons q' r' =>
            simp only [Option.map_eq_some_iff] at h1 h2
            obtain ⟨⟨us, y, b⟩, h1, e1⟩ := h1
            obtain ⟨⟨us', y', b'⟩, h2, e2⟩ := h2
            simp only [Prod.mk.injEq] at e1 e2
            obtain ⟨rfl, rfl, rfl⟩ := e1
            obtain ⟨rfl, rfl, rfl⟩ := e2
            have gq := gp q (List.mem_cons_self ..)
            have gq' := gp' q' (List.mem_cons_self ..)
            have tn : (if i % 2 = 1 then T q d else T d q) ≠ (if i % 2 = 1 then T q' d' else T d' q') := by
              split
              · exact fun e => hne (inj _ _ _ _ gq g gq' g' e).2
              · exact fun e => hne (inj _ _ _ _ g gq g' gq' e).1
            by_cases he : S (if i % 2 = 1 then T q d else T d q) = S (if i % 2 = 1 then T q' d' else T d' q')
            · exact ⟨0, _, _, rfl, rfl, tn, he⟩
            · obtain ⟨j, t, t', a1, a2, a3, a4⟩ := clash_runT G inj hS h _ _ _ _ r r' us us' y' b b' (by split <;> exact hS _ _ ‹_› ‹_›) (by split <;> exact hS _ _ ‹_› ‹_›) (fun z hz => gp z (List.mem_cons_of_mem _ hz)) (fun z hz => gp' z (List.mem_cons_of_mem _ hz)) h1 h2 he
              exact ⟨j + 1, t, t', by simpa using a1, by simpa using a2, a3, a4⟩
      · rw [if_neg ci] at h1 h2
        exact clash_runT G inj hS h _ _ _ _ p p' ts ts' x o o' g g' gp gp' h1 h2 hne
end
end Go.Sg
/- How a list is shown to begin another one, in plain words: from the top down, and by ways. No program in sight. -/
set_option linter.unusedVariables false
set_option linter.unusedSimpArgs false
namespace Go.Sg
section
variable {α : Type} (P : α → α → α)
def lastB (w : Bool) (d : α) (p : List α) : Option (α × α) := if w = true then (if p = [] then some (d, d) else none) else
  match p with
  | [z] => some (z, z)
  | _ => none
/-- The two roots that follow from a part. -/
def bothH : Nat → Nat → Nat → Bool → α → List α → Option (α × α)
  | 0, _, _, w, d, p => lastB w d p
  | h + 1, n, m, w, d, p => if m = n then lastB w d p else if n ≤ 2 ^ h then bothH h n m w d p else
      match p.getLast? with
      | none => none
      | some z => if m ≤ 2 ^ h then (bothH h (2 ^ h) m w d p.dropLast).map (fun x => (x.1, P x.2 z)) else (bothH h (n - 2 ^ h) (m - 2 ^ h) false d p.dropLast).map (fun x => (P z x.1, P z x.2))
/-- The ways down: is the piece the left one? -/
def waysH : Nat → Nat → Nat → List Bool
  | 0, _, _ => []
  | h + 1, n, m => if m = n then [] else if n ≤ 2 ^ h then waysH h n m else if m ≤ 2 ^ h then true :: waysH h (2 ^ h) m else false :: waysH h (n - 2 ^ h) (m - 2 ^ h)
/-- The two hashes from the lowest piece up. -/
def stepW (x : α × α) (b : Bool) (z : α) : α × α := if b = true then (x.1, P x.2 z) else (P z x.1, P z x.2)
def upW : List Bool → α × α → List α → α × α
  | b :: s, x, z :: p => upW s (stepW P x b z) p
  | _, x, _ => x
def shownW (s : List Bool) (w : Bool) (d : α) (p : List α) : Option (α × α) :=
  if (w && s.all id) = true then (if p.length = s.length then some (upW P s.reverse (d, d) p) else none) else
    match p with
    | [] => none
    | z :: r => if r.length = s.length then some (upW P s.reverse (z, z) r) else none
end
section
variable {α : Type} {P : α → α → α}
theorem upW_snoc : ∀ (s : List Bool) (x : α × α) (p : List α) (b : Bool) (z : α), p.length = s.length → upW P (s ++ [b]) x (p ++ [z]) = stepW P (upW P s x p) b z
  | [], x, [], b, z, _ => rfl
  | c :: s, x, y :: p, b, z, h => by
    simp only [List.length_cons, Nat.add_right_cancel_iff] at h
    exact upW_snoc s (stepW P x c y) p b z h
  | [], x, y :: p, b, z, h => by simp at h
  | c :: s, x, [], b, z, h => by simp at h
theorem bothH_same {h n : Nat} {w : Bool} {d : α} {p : List α} : bothH P h n n w d p = lastB w d p := by
  cases h with
  | zero => rfl
  | succ h => rw [bothH, if_pos rfl]
theorem bothH_succ {h n m : Nat} {w : Bool} {d : α} {p : List α} (hn : n ≤ 2 ^ h) : bothH P (h + 1) n m w d p = bothH P h n m w d p := by
  by_cases e : m = n
  · subst e; rw [bothH_same, bothH_same]
  · rw [bothH, if_neg e, if_pos hn]
theorem bothH_any {h h' n m : Nat} {w : Bool} {d : α} {p : List α} (h1 : n ≤ 2 ^ h) (h2 : n ≤ 2 ^ h') : bothH P h n m w d p = bothH P h' n m w d p := by
  have add : ∀ (h k : Nat), n ≤ 2 ^ h → bothH P (h + k) n m w d p = bothH P h n m w d p := by
    intro h k hn
    induction k with
    | zero => rfl
    | succ k ih => rw [← Nat.add_assoc, bothH_succ (Nat.le_trans hn (Nat.pow_le_pow_right (by omega) (by omega))), ih]
  by_cases c : h ≤ h'
  · obtain ⟨k, rfl⟩ : ∃ k, h' = h + k := ⟨h' - h, by omega⟩
    rw [add h k h1]
  · obtain ⟨k, rfl⟩ : ∃ k, h = h' + k := ⟨h - h', by omega⟩
    rw [add h' k h2]
theorem bothH_nil {n m : Nat} {w : Bool} {d : α} (hne : m ≠ n) : ∀ h, n ≤ 2 ^ h → m ≤ n → 1 ≤ m → bothH P h n m w d [] = none
  | 0, hn, hm, h1 => by omega
  | h + 1, hn, hm, h1 => by
    rw [bothH, if_neg hne]
    by_cases c : n ≤ 2 ^ h
    · rw [if_pos c, bothH_nil hne h c hm h1]
    · rw [if_neg c]; rfl
theorem bothH_left {h n m : Nat} {w : Bool} {d z : α} {p : List α} (hn : ¬ n ≤ 2 ^ h) (hm : m ≤ 2 ^ h) : bothH P (h + 1) n m w d (p ++ [z]) = (bothH P h (2 ^ h) m w d p).map (fun x => (x.1, P x.2 z)) := by
  rw [bothH, if_neg (by omega), if_neg hn, List.getLast?_concat, List.dropLast_concat]
  simp only [hm, if_true]
theorem bothH_right {h n m : Nat} {w : Bool} {d z : α} {p : List α} (hn : ¬ n ≤ 2 ^ h) (hmn : m ≠ n) (hm : ¬ m ≤ 2 ^ h) : bothH P (h + 1) n m w d (p ++ [z]) = (bothH P h (n - 2 ^ h) (m - 2 ^ h) false d p).map (fun x => (P z x.1, P z x.2)) := by
  rw [bothH, if_neg hmn, if_neg hn, List.getLast?_concat, List.dropLast_concat]
  simp only [hm, if_false]
theorem shownW_nil (w : Bool) (d : α) (p : List α) : shownW P [] w d p = lastB w d p := by
  unfold shownW lastB
  cases w
  · simp only [Bool.false_and, Bool.false_eq_true, if_false]
    match p with
    | [] => rfl
    | [z] => rfl
    | z :: y :: r => simp
  · simp only [List.all_nil, Bool.and_self, if_true]
    match p with
    | [] => rfl
    | z :: r => simp
theorem shownW_none (b : Bool) (s : List Bool) (w : Bool) (d : α) : shownW P (b :: s) w d [] = none := by
  unfold shownW
  split
  · simp
  · rfl
theorem shownW_snoc (b : Bool) (s : List Bool) (w : Bool) (d z : α) (p : List α) : shownW P (b :: s) w d (p ++ [z]) = (shownW P s (w && b) d p).map fun x => stepW P x b z := by
  unfold shownW
  have e : (w && (b :: s).all id) = (w && b && s.all id) := by simp [List.all_cons, Bool.and_assoc]
  rw [e]
  by_cases c : (w && b && s.all id) = true
  · rw [if_pos c, if_pos c]
    by_cases hl : p.length = s.length
    · rw [if_pos hl, if_pos (by simp [hl]), List.reverse_cons, upW_snoc _ _ _ _ _ (by rw [List.length_reverse]; exact hl)]
      rfl
    · rw [if_neg hl, if_neg (by simp; exact hl)]
      rfl
  · rw [if_neg c, if_neg c]
    match p with
    | [] => simp
    | y :: r =>
      simp only [List.cons_append]
      by_cases hl : r.length = s.length
      · rw [if_pos hl, if_pos (by simp [hl]), List.reverse_cons, upW_snoc _ _ _ _ _ (by rw [List.length_reverse]; exact hl)]
        rfl
      · rw [if_neg hl, if_neg (by simp; exact hl)]
        rfl
/-- The way down and up again tells what the recursion tells. -/
theorem bothH_ways : ∀ (h n m : Nat) (w : Bool) (d : α) (p : List α), n ≤ 2 ^ h → m ≤ n → 1 ≤ m → bothH P h n m w d p = shownW P (waysH h n m) w d p
  | 0, n, m, w, d, p, hn, hm, h1 => (shownW_nil w d p).symm
  | h + 1, n, m, w, d, p, hn, hm, h1 => by
    have e1 := pow2_succ h
    by_cases e : m = n
    · subst e
      rw [bothH_same, waysH, if_pos rfl, shownW_nil]
    · rw [waysH, if_neg e]
      by_cases c : n ≤ 2 ^ h
      · rw [if_pos c, bothH_succ c, bothH_ways h n m w d p c hm h1]
      · rw [if_neg c]
        by_cases cm : m ≤ 2 ^ h
        · rw [if_pos cm]
          rcases snoc_cases p with rfl | ⟨q, z, rfl⟩
          · rw [shownW_none, bothH_nil e _ hn hm h1]
          · rw [bothH_left c cm, shownW_snoc, bothH_ways h (2 ^ h) m w d q (Nat.le_refl _) cm h1, Bool.and_true]
            rfl
        · rw [if_neg cm]
          rcases snoc_cases p with rfl | ⟨q, z, rfl⟩
          · rw [shownW_none, bothH_nil e _ hn hm h1]
          · rw [bothH_right c e cm, shownW_snoc, bothH_ways h (n - 2 ^ h) (m - 2 ^ h) false d q (by omega) (by omega) (by omega), Bool.and_false]
            rfl
end
end Go.Sg
/- How a list's growth is shown, in plain words: the hashes, and that they show it. No program in sight. -/
set_option linter.unusedVariables false
set_option linter.unusedSimpArgs false
namespace Go.Sg
section
variable {α : Type} (P : α → α → α) (e : α)
/-- The hashes that show a beginning of m leaves. -/
def partH : Nat → List α → Nat → Bool → List α
  | 0, l, _, w => if w = true then [] else [rootH P e 0 l]
  | h + 1, l, m, w => if m = l.length then (if w = true then [] else [rootH P e (h + 1) l]) else if l.length ≤ 2 ^ h then partH h l m w else
      if m ≤ 2 ^ h then partH h (l.take (2 ^ h)) m w ++ [rootH P e h (l.drop (2 ^ h))] else partH h (l.drop (2 ^ h)) (m - 2 ^ h) false ++ [rootH P e h (l.take (2 ^ h))]
end
section
variable {α : Type} {P : α → α → α} {e : α}
theorem partH_same {h : Nat} {l : List α} {w : Bool} : partH P e h l l.length w = if w = true then [] else [rootH P e h l] := by
  cases h with
  | zero => rfl
  | succ h => rw [partH, if_pos rfl]
theorem partH_succ {h m : Nat} {l : List α} {w : Bool} (hl : l.length ≤ 2 ^ h) : partH P e (h + 1) l m w = partH P e h l m w := by
  by_cases c : m = l.length
  · subst c; rw [partH_same, partH_same, rootH_succ hl]
  · rw [partH, if_neg c, if_pos hl]
theorem partH_any {h h' m : Nat} {l : List α} {w : Bool} (h1 : l.length ≤ 2 ^ h) (h2 : l.length ≤ 2 ^ h') : partH P e h l m w = partH P e h' l m w := by
  have add : ∀ (h k : Nat), l.length ≤ 2 ^ h → partH P e (h + k) l m w = partH P e h l m w := by
    intro h k hn
    induction k with
    | zero => rfl
    | succ k ih => rw [← Nat.add_assoc, partH_succ (Nat.le_trans hn (Nat.pow_le_pow_right (by omega) (by omega))), ih]
  by_cases c : h ≤ h'
  · obtain ⟨k, rfl⟩ : ∃ k, h' = h + k := ⟨h' - h, by omega⟩
    rw [add h k h1]
  · obtain ⟨k, rfl⟩ : ∃ k, h = h' + k := ⟨h - h', by omega⟩
    rw [add h' k h2]
theorem partH_left {h m : Nat} {l : List α} {w : Bool} (hn : ¬ l.length ≤ 2 ^ h) (hm : m ≤ 2 ^ h) : partH P e (h + 1) l m w = partH P e h (l.take (2 ^ h)) m w ++ [rootH P e h (l.drop (2 ^ h))] := by
  rw [partH, if_neg (by omega), if_neg hn, if_pos hm]
theorem partH_right {h m : Nat} {l : List α} {w : Bool} (hn : ¬ l.length ≤ 2 ^ h) (hml : m ≠ l.length) (hm : ¬ m ≤ 2 ^ h) : partH P e (h + 1) l m w = partH P e h (l.drop (2 ^ h)) (m - 2 ^ h) false ++ [rootH P e h (l.take (2 ^ h))] := by
  rw [partH, if_neg hml, if_neg hn, if_neg hm]
theorem partH_le : ∀ (h : Nat) (l : List α) (m : Nat) (w : Bool), (partH P e h l m w).length ≤ h + 1
  | 0, l, m, w => by rw [partH]; split <;> simp
  | h + 1, l, m, w => by
    rw [partH]
    have i1 := partH_le h l m w
    have i2 := partH_le h (l.take (2 ^ h)) m w
    have i3 := partH_le h (l.drop (2 ^ h)) (m - 2 ^ h) false
    split
    · split <;> simp
    · split
      · omega
      · split <;> simp only [List.length_append, List.length_singleton] <;> omega
theorem pathH_le : ∀ (h : Nat) (l : List α) (i : Nat), (pathH P e h l i).length ≤ h
  | 0, l, i => by simp [pathH]
  | h + 1, l, i => by
    rw [pathH]
    have i1 := pathH_le h l i
    have i2 := pathH_le h (l.take (2 ^ h)) i
    have i3 := pathH_le h (l.drop (2 ^ h)) (i - 2 ^ h)
    split
    · omega
    · split <;> simp only [List.length_append, List.length_singleton] <;> omega
/-- The growth shows the growth. -/
theorem both_part : ∀ (h : Nat) (l : List α) (m : Nat) (w : Bool) (d : α), l.length ≤ 2 ^ h → 1 ≤ m → m ≤ l.length → (w = true → d = rootH P e h (l.take m)) →
    bothH P h l.length m w d (partH P e h l m w) = some (rootH P e h (l.take m), rootH P e h l)
  | 0, l, m, w, d, hl, h1, hm, hd => by
    obtain rfl : m = l.length := by simp at hl; omega
    rw [List.take_length] at hd
    rw [partH_same, bothH_same, List.take_length]
    unfold lastB
    cases w
    · rfl
    · simp [hd rfl]
  | h + 1, l, m, w, d, hl, h1, hm, hd => by
    have e1 := pow2_succ h
    by_cases c : m = l.length
    · subst c
      rw [List.take_length] at hd
      rw [partH_same, bothH_same, List.take_length]
      unfold lastB
      cases w
      · rfl
      · simp [hd rfl]
    · by_cases c1 : l.length ≤ 2 ^ h
      · have t1 : (l.take m).length ≤ 2 ^ h := by rw [List.length_take]; omega
        rw [rootH_succ t1] at hd
        rw [bothH_succ c1, partH_succ c1, rootH_succ t1, rootH_succ c1, both_part h l m w d c1 h1 hm hd]
      · have t0 : (l.take (2 ^ h)).length = 2 ^ h := by rw [List.length_take]; omega
        by_cases c2 : m ≤ 2 ^ h
        · have t1 : (l.take m).length ≤ 2 ^ h := by rw [List.length_take]; omega
          rw [rootH_succ t1] at hd
          have tt : (l.take (2 ^ h)).take m = l.take m := by rw [List.take_take, Nat.min_eq_left c2]
          have ih := both_part h (l.take (2 ^ h)) m w d (by omega) h1 (by omega) (by rw [tt]; exact hd)
          rw [t0, tt] at ih
          rw [partH_left c1 c2, bothH_left c1 c2, ih, rootH_succ t1, rootH_split (l := l) (by omega)]
          rfl
        · have ih := both_part h (l.drop (2 ^ h)) (m - 2 ^ h) false d (by rw [List.length_drop]; omega) (by omega) (by rw [List.length_drop]; omega) (by simp)
          rw [List.length_drop] at ih
          rw [partH_right c1 c c2, bothH_right c1 c c2, ih, rootH_split (l := l) (by omega), rootH_split (l := l.take m) (by rw [List.length_take]; omega), List.take_take, Nat.min_eq_left (by omega), List.drop_take]
          rfl
/-- The proof shows the leaf. -/
theorem fold_path : ∀ (h : Nat) (l : List α) (i : Nat) (d : α), l.length ≤ 2 ^ h → l[i]? = some d → foldH P h l.length i d (pathH P e h l i) = some (rootH P e h l)
  | 0, l, i, d, hl, hi => by
    obtain ⟨h1, h2⟩ := List.getElem?_eq_some_iff.1 hi
    match l with
    | [] => simp at h1
    | [a] =>
      obtain rfl : i = 0 := by simp at h1; exact h1
      simp at h2
      subst h2
      rfl
    | a :: b :: l => simp at hl
  | h + 1, l, i, d, hl, hi => by
    have e1 := pow2_succ h
    obtain ⟨h1, h2⟩ := List.getElem?_eq_some_iff.1 hi
    by_cases c : l.length ≤ 2 ^ h
    · rw [foldH_succ c, pathH_succ c, rootH_succ c, fold_path h l i d c hi]
    · have t0 : (l.take (2 ^ h)).length = 2 ^ h := by rw [List.length_take]; omega
      by_cases c2 : i < 2 ^ h
      · have ih := fold_path h (l.take (2 ^ h)) i d (by omega) (by rw [List.getElem?_take, if_pos c2]; exact hi)
        rw [t0] at ih
        rw [pathH_left (by omega) c2, foldH_left c c2, ih, rootH_split (l := l) (by omega)]
        rfl
      · have ih := fold_path h (l.drop (2 ^ h)) (i - 2 ^ h) d (by rw [List.length_drop]; omega) (by rw [List.getElem?_drop, show 2 ^ h + (i - 2 ^ h) = i by omega]; exact hi)
        rw [List.length_drop] at ih
        rw [pathH_right (by omega) c2, foldH_right c c2, ih, rootH_split (l := l) (by omega)]
        rfl
end
end Go.Sg
