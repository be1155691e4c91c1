/- signetref6: FromBytes, Cmp, Bits, Bit, by their contracts. -/
import Derived.Test.YtnlmkikaaifcmaaRefA
set_option linter.unusedVariables false
set_option linter.unusedSimpArgs false
namespace Go.Proofs.Ytnlmkikaaifcmaa
open Go.RowKit Go.Sg

/-- Bytes i - 4 .. i - 4 + t, those that there are. -/
def seg (bs : List Int) (i t : Nat) : List Int := (bs.take (i + t - 4)).drop (i - 4)
theorem seg_zero (bs : List Int) (i : Nat) : seg bs i 0 = [] := by
  apply List.eq_nil_of_length_eq_zero; simp [seg]
theorem seg_skip (bs : List Int) (i t : Nat) (h : i + t < 4) : seg bs i (t + 1) = seg bs i t := by
  unfold seg; rw [show i + (t + 1) - 4 = i + t - 4 by omega]
theorem seg_snoc (bs : List Int) (i t : Nat) (h : 4 ≤ i + t) (hl : i + t - 4 < bs.length) : seg bs i (t + 1) = seg bs i t ++ [nth bs (i + t - 4)] := by
  unfold seg
  rw [show i + (t + 1) - 4 = (i + t - 4) + 1 by omega, take_succ_nth _ _ hl, List.drop_append_of_le_length (by simp; omega)]
theorem seg_len (bs : List Int) (i t : Nat) (h : t ≤ 4) : (seg bs i t).length ≤ t := by simp [seg]; omega
theorem seg_full (bs : List Int) (i : Nat) : seg bs i 4 = (bs.take i).drop (i - 4) := by unfold seg; rw [show i + 4 - 4 = i by omega]
theorem bval_drop (bs : List Int) (i : Nat) (hi : i ≤ bs.length) : bval (bs.drop (i - 4)) = bval (seg bs i 4) * 256 ^ (bs.length - i) + bval (bs.drop i) := by
  have e : bs.drop (i - 4) = seg bs i 4 ++ bs.drop i := by
    rw [seg_full]
    conv => lhs; rw [← List.take_append_drop i bs]
    rw [List.drop_append_of_le_length (by simp; omega)]
  rw [e, bval_append, List.length_drop]
theorem bval_seg_lt {bs : List Int} (ub : U8 bs) (i t : Nat) (h : t ≤ 4) : bval (seg bs i t) < 256 ^ t := by
  have h1 : U8 (seg bs i t) := (ub.take (by omega) _).drop (by omega) _
  exact Nat.lt_of_lt_of_le (bval_lt h1) (Nat.pow_le_pow_right (by decide) (seg_len bs i t h))

theorem val_pad (xs : List Int) (m : Nat) : val (xs ++ List.replicate m 0) = val xs := by rw [val_append, val_zeros]; omega
theorem nth_pad (xs : List Int) (m i : Nat) : nth (xs ++ List.replicate m 0) i = nth xs i := by
  by_cases h : i < xs.length
  · exact nth_append_left _ _ _ h
  · obtain ⟨j, rfl⟩ : ∃ j, i = xs.length + j := ⟨i - xs.length, by omega⟩
    rw [nth_append_right, nth_replicate0, nth_out _ _ (by omega)]
theorem u32_pad {xs : List Int} (h : U32 xs) (m : Nat) : U32 (xs ++ List.replicate m 0) := fun i => by rw [nth_pad]; exact h i
/-- The same limbs from k on, whatever the lengths. -/
def Above (xs ys : List Int) (k : Nat) : Prop := ∀ j, k ≤ j → nth xs j = nth ys j
theorem Above.start (xs ys : List Int) (n : Nat) (h1 : xs.length ≤ n) (h2 : ys.length ≤ n) : Above xs ys n := fun j hj => by rw [nth_out _ _ (by omega), nth_out _ _ (by omega)]
theorem Above.step {xs ys : List Int} {k : Nat} (h : Above xs ys (k + 1)) (e : nth xs k = nth ys k) : Above xs ys k := fun j hj => by
  by_cases hk : j = k
  · rw [hk]; exact e
  · exact h j (by omega)
theorem Above.eq {xs ys : List Int} (ux : U32 xs) (uy : U32 ys) (h : Above xs ys 0) : val xs = val ys := by
  rw [← val_pad xs ys.length, ← val_pad ys xs.length]
  congr 1
  apply ext_nth
  · simp; omega
  · intro i _
    rw [nth_pad, nth_pad]
    exact h i (by omega)
theorem Above.lt {xs ys : List Int} (ux : U32 xs) {k : Nat} (h : Above xs ys (k + 1)) (hlt : nth xs k < nth ys k) : val xs < val ys := by
  rw [← val_pad xs (ys.length + k + 1), ← val_pad ys (xs.length + k + 1)]
  apply top_lt (u32_pad ux _) k (by simp; omega) (by simp; omega)
  · apply ext_nth
    · simp; omega
    · intro i _
      rw [nth_drop, nth_drop, nth_pad, nth_pad]
      exact h _ (by omega)
  · rw [nth_pad, nth_pad]; exact hlt

def RCmpPost (r : Int) (w : World) (e : Ending) (w' : World) : Prop := e = .returned (.int .i64 r) ∧ w = w'

theorem bl_half (x : Nat) (h : x ≠ 0) : bl x = 1 + bl (x / 2) := by
  by_cases h1 : x / 2 = 0
  · obtain rfl : x = 1 := by omega
    decide
  · have e := bl_add_low (x / 2) 1 (x % 2) h1 (by omega)
    rw [show x % 2 + 2 ^ 1 * (x / 2) = x by omega] at e
    omega
def IntPost (n : Int) (w : World) (e : Ending) (w' : World) : Prop := e = .returned (.int .i64 n) ∧ Below w.heap.size w w'

/-- A bit of a number. -/
def bitB (n : Nat) (i : Int) : Bool := decide (0 ≤ i ∧ n / 2 ^ i.toNat % 2 = 1)
theorem bit_limb {zs : List Int} (uz : U32 zs) (i : Nat) : val zs / 2 ^ i % 2 = lb zs (i / 32) / 2 ^ (i % 32) % 2 := by
  by_cases h : i / 32 < zs.length
  · have e1 := val_split zs (i / 32) (by omega)
    have e2 := val_drop zs (i / 32) h
    have h1 := val_take_lt uz (i / 32) (by omega)
    have h3 : 2 ^ i = R ^ (i / 32) * 2 ^ (i % 32) := by rw [Rpow_two, ← Nat.pow_add]; congr 1; omega
    rw [e2] at e1
    rw [h3, ← Nat.div_div_eq_div_mul, e1, Nat.add_mul_div_left _ _ (Rpow_pos _), Nat.div_eq_of_lt h1, Nat.zero_add]
    have h4 : R = 2 ^ (i % 32) * (2 * 2 ^ (31 - i % 32)) := by
      rw [← Nat.pow_succ', ← Nat.pow_add, show i % 32 + (31 - i % 32 + 1) = 32 by omega]; rfl
    rw [h4, Nat.mul_assoc, Nat.add_mul_div_left _ _ (Nat.two_pow_pos _), Nat.mul_assoc, Nat.add_mul_mod_self_left]
  · rw [lb, nth_out _ _ (by omega)]
    have h1 := val_lt uz
    have h2 : R ^ zs.length ≤ 2 ^ i := by rw [Rpow_two]; exact Nat.pow_le_pow_right (by decide) (by omega)
    rw [Nat.div_eq_of_lt (by omega)]
    simp
end Go.Proofs.Ytnlmkikaaifcmaa
