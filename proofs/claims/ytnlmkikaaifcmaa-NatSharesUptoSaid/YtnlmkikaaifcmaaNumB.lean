/- Plain arithmetic of limbs: sums, differences, products, step by step. -/
import Derived.Test.YtnlmkikaaifcmaaNum
set_option linter.unusedVariables false
set_option linter.unusedSimpArgs false
namespace Go.Sg

theorem val_take_next (xs : List Int) (k : Nat) : val (xs.take (k + 1)) = val (xs.take k) + R ^ k * lb xs k := by
  by_cases h : k < xs.length
  · exact val_take_succ xs k h
  · rw [List.take_of_length_le (by omega), List.take_of_length_le (by omega), lb, nth_out _ _ (by omega)]; simp
theorem take_set_succ (L : List Int) (i : Nat) (v : Int) (h : i < L.length) : (L.set i v).take (i + 1) = L.take i ++ [v] := by
  rw [take_succ_nth _ _ (by simpa using h), nth_set _ _ _ _ h, if_pos rfl, List.take_set_of_le (Nat.le_refl _)]
theorem val_take_set_succ (L : List Int) (i : Nat) (v : Int) (h : i < L.length) : val ((L.set i v).take (i + 1)) = val (L.take i) + R ^ i * v.toNat := by
  rw [take_set_succ _ _ _ h, val_snoc, List.length_take, Nat.min_eq_left (by omega)]
/-- A limb set inside the first k. -/
theorem val_take_set (L : List Int) (p k : Nat) (v : Int) (hp : p < k) (hk : k ≤ L.length) : val ((L.set p v).take k) + R ^ p * lb L p = val (L.take k) + R ^ p * v.toNat := by
  have e : (L.set p v).take k = (L.take k).set p v := by rw [List.take_set]
  have h := val_set (L.take k) p v (by simp; omega)
  rw [lb, nth_take _ _ _ hp] at h
  rw [e]; exact h

/-- A column of a sum: s is what stands there, its low limb is written, the rest is carried. -/
theorem column (P s : Nat) : P * (s % R) + P * R * (s / R) = P * s := by
  rw [Nat.mul_assoc, ← Nat.mul_add, Nat.mod_add_div]
theorem add_step {A B T P c x y : Nat} (h : T + P * c = A + B) : (T + P * ((c + x + y) % R)) + P * R * ((c + x + y) / R) = (A + P * x) + (B + P * y) := by
  have := column P (c + x + y)
  rw [Nat.mul_add, Nat.mul_add] at this
  omega
theorem Rpow_next (i : Nat) : R ^ (i + 1) = R ^ i * R := Nat.pow_succ ..

/-- The limbs from off on, n of them. -/
def sub (L : List Int) (off n : Nat) : List Int := (L.drop off).take n
theorem sub_len (L : List Int) (off n : Nat) (h : off + n ≤ L.length) : (sub L off n).length = n := by simp [sub]; omega
theorem nth_sub (L : List Int) (off n i : Nat) (h : i < n) : nth (sub L off n) i = nth L (off + i) := by rw [sub, nth_take _ _ _ h, nth_drop]
theorem U32.sub {L : List Int} (h : U32 L) (off n : Nat) : U32 (sub L off n) := (h.drop (by omega) _).take (by omega) _
theorem val_sub_next (L : List Int) (off i : Nat) : val (sub L off (i + 1)) = val (sub L off i) + R ^ i * lb L (off + i) := by
  rw [sub, sub, val_take_next, lb, nth_drop, lb]
theorem sub_set (L : List Int) (off i : Nat) (v : Int) (h : off + i < L.length) : sub (L.set (off + i) v) off i = sub L off i := by
  unfold sub
  apply ext_nth
  · simp
  · intro j hj
    simp at hj
    rw [nth_take _ _ _ (by omega), nth_take _ _ _ (by omega), nth_drop, nth_drop, nth_set _ _ _ _ h, if_neg (by omega)]
theorem sub_zero_off (L : List Int) (n : Nat) : sub L 0 n = L.take n := by simp [sub]
theorem val_sub_lt {L : List Int} (h : U32 L) (off n : Nat) : val (sub L off n) < R ^ n := by
  have h1 := val_lt (h.sub off n)
  have h2 : (sub L off n).length ≤ n := by simp [sub]; omega
  exact Nat.lt_of_lt_of_le h1 (Nat.pow_le_pow_right R_pos h2)

/-- One limb of a difference: d + y + b = x + R b'. -/
theorem sub_step {S T Y P d y b x b' : Nat} (h : T + Y = S + P * b) (hd : d + y + b = x + R * b') : (T + P * d) + (Y + P * y) = (S + P * x) + P * R * b' := by
  have e : P * (d + y + b) = P * (x + R * b') := by rw [hd]
  rw [Nat.mul_add, Nat.mul_add, Nat.mul_add, ← Nat.mul_assoc] at e
  omega

/-- One limb of a product's row. -/
theorem mul_step {T A P Q c x y o Yj Yp : Nat} (h : T + P * c = A + Q * (x * Yj)) (W : Nat) (hW : W + P * o = T + P * ((c + (x * y + o)) % R)) (hQ : P = Q * Yp) (Yp' : Nat) (hY : Yp' = Yj + Yp * y) :
    W + P * R * ((c + (x * y + o)) / R) = A + Q * (x * Yp') := by
  have e := column P (c + (x * y + o))
  rw [Nat.mul_add, Nat.mul_add] at e
  have e2 : Q * (x * Yp') = Q * (x * Yj) + P * (x * y) := by
    rw [hY, hQ, Nat.mul_add, Nat.mul_add]
    congr 1
    rw [Nat.mul_assoc Q, Nat.mul_left_comm x]
  omega
theorem mul_lt_sq {a b : Nat} (ha : a < R) (hb : b < R) : a * b ≤ 18446744065119617025 := by
  unfold R at *
  exact Nat.le_trans (Nat.mul_le_mul (show a ≤ 4294967295 by omega) (show b ≤ 4294967295 by omega)) (by decide)
end Go.Sg
