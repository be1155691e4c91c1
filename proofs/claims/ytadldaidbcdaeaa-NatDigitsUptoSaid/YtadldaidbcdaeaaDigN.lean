/- Bytes and the number they say, there and back. No program in sight. -/
import Derived.Test.YtadldaidbcdaeaaNatWritesL
set_option linter.unusedVariables false
set_option linter.unusedSimpArgs false
namespace Go.Sg
open Go.RowKit

theorem byt_down_one (n j : Nat) : byt n (j + 1) = byt (n / 256) j := by
  unfold byt
  rw [Nat.div_div_eq_div_mul, Nat.pow_succ, Nat.mul_comm 256]
theorem beN_succ (n len : Nat) : beN n (len + 1) = beN (n / 256) len ++ [((n % 256 : Nat) : Int)] := by
  apply ext_nth
  · simp [beN_len]
  · intro i hi
    rw [beN_len] at hi
    rw [nth_beN hi]
    by_cases h : i < len
    · rw [nth_append_left _ _ _ (by rw [beN_len]; exact h), nth_beN h, ← byt_down_one, show len + 1 - 1 - i = len - 1 - i + 1 by omega]
    · obtain rfl : i = len := by omega
      have e := nth_append_right (beN (n / 256) i) [((n % 256 : Nat) : Int)] 0
      rw [beN_len, Nat.add_zero] at e
      rw [e, show i + 1 - 1 - i = 0 by omega]
      simp [nth, byt]
theorem bval_beN : ∀ (len n : Nat), n < 256 ^ len → bval (beN n len) = n
  | 0, n, h => by
    have : n = 0 := by simpa using h
    subst this; rfl
  | len + 1, n, h => by
    rw [beN_succ, bval_snoc, bval_beN len (n / 256) (by rw [Nat.div_lt_iff_lt_mul (by decide)]; rwa [Nat.pow_succ] at h)]
    simp only [Int.toNat_natCast]
    omega
theorem beN_bval : ∀ (k : Nat) (bs : List Int), bs.length = k → U8 bs → beN (bval bs) k = bs
  | 0, bs, h, _ => by
    have : bs = [] := List.eq_nil_of_length_eq_zero h
    subst this; rfl
  | k + 1, bs, h, u => by
    have e : bs = bs.take k ++ [nth bs k] := by
      rw [← take_succ_nth _ _ (by omega), List.take_of_length_le (by omega)]
    have hx := u k
    have hl : (bs.take k).length = k := by rw [List.length_take]; omega
    have ih := beN_bval k (bs.take k) hl (u.take (by omega) _)
    rw [e, bval_snoc, beN_succ]
    rw [show (bval (bs.take k) * 256 + (nth bs k).toNat) / 256 = bval (bs.take k) by omega, ih]
    congr 2
    omega
theorem bval_zeros (n : Nat) : bval (List.replicate n 0) = 0 := by
  induction n with
  | zero => rfl
  | succ n ih => rw [List.replicate_succ', bval_snoc, ih]; rfl
theorem lead_split (bs : List Int) (a : Nat) (h : a ≤ bs.length) (h0 : ∀ j, j < a → nth bs j = 0) : bs = List.replicate a 0 ++ bs.drop a := by
  apply ext_nth
  · simp; omega
  · intro i hi
    by_cases h2 : i < a
    · rw [nth_append_left _ _ _ (by simpa using h2), h0 i h2, nth_replicate _ _ _ h2]
    · have e := nth_append_right (List.replicate a 0) (bs.drop a) (i - a)
      rw [List.length_replicate, show a + (i - a) = i by omega] at e
      rw [e, nth_drop, show a + (i - a) = i by omega]
theorem bval_drop_lead (bs : List Int) (a : Nat) (h : a ≤ bs.length) (h0 : ∀ j, j < a → nth bs j = 0) : bval (bs.drop a) = bval bs := by
  have e := lead_split bs a h h0
  have e2 := congrArg bval e
  rw [bval_append, bval_zeros] at e2
  omega
/-- The least bytes of what these bytes say: they themselves, without the noughts ahead. -/
theorem beN_lead {bs : List Int} (u : U8 bs) {a : Nat} (h : a ≤ bs.length) (h0 : ∀ j, j < a → nth bs j = 0) (h1 : a = bs.length ∨ nth bs a ≠ 0) : beN (bval bs) (blen (bval bs)) = bs.drop a := by
  rw [← bval_drop_lead bs a h h0]
  obtain ⟨d, hd⟩ : ∃ d, d = bs.drop a := ⟨_, rfl⟩
  have ud : U8 d := by rw [hd]; exact u.drop (by omega) _
  have hl : d.length = bs.length - a := by rw [hd, List.length_drop]
  rw [← hd]
  rcases h1 with h1 | h1
  · have : d = [] := List.eq_nil_of_length_eq_zero (by omega)
    subst this; rfl
  · have hal : a < bs.length := by
      refine Nat.lt_of_not_le fun h2 => h1 (nth_out _ _ h2)
    obtain ⟨m, hm⟩ : ∃ m, d.length = m + 1 := ⟨d.length - 1, by omega⟩
    have hb := beN_bval (m + 1) d hm ud
    have h2 : byt (bval d) m ≠ 0 := by
      intro h3
      have e := nth_beN (n := bval d) (len := m + 1) (i := 0) (by omega)
      rw [hb, show m + 1 - 1 - 0 = m by omega, h3, hd, nth_drop, Nat.add_zero] at e
      exact h1 e
    rw [byt_stop (by rw [← hm]; exact bval_lt ud) h2]
    exact hb
theorem bval_bytes (n : Nat) : bval (beN n (blen n)) = n := bval_beN _ _ (lt_blen n)
theorem fits_lt {n m : Nat} (h : blen n ≤ m) : n < 256 ^ m := Nat.lt_of_lt_of_le (lt_blen n) (Nat.pow_le_pow_right (by decide) h)
theorem mod_bl (n k : Nat) : bl (n % 2 ^ k) ≤ k := (bl_le_iff _ _).2 (Nat.mod_lt _ (Nat.pow_pos (by decide)))
theorem pow_lim {k n : Nat} (h : k < 32 * n) : Lim n (2 ^ k) := ⟨by
  rw [Rpow_two]
  exact Nat.pow_lt_pow_right (by decide) h⟩
end Go.Sg
