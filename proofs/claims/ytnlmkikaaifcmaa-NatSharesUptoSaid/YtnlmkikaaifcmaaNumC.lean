/- Plain arithmetic: shifts by less than a limb, division by one limb, Knuth's division. -/
import Derived.Test.YtnlmkikaaifcmaaNumB
set_option linter.unusedVariables false
set_option linter.unusedSimpArgs false
namespace Go.Sg

/-! ### a shift up -/
theorem shl_parts {s l c : Nat} (hs : s < 32) (hl : l < R) (hc : c < 2 ^ s) :
    (l * 2 ^ s % R) % 2 ^ s = 0 ∧ l * 2 ^ s % R + c < R ∧ l * 2 ^ s / R < 2 ^ s := by
  have hR : R = 2 ^ s * 2 ^ (32 - s) := by rw [← Nat.pow_add, show s + (32 - s) = 32 by omega]; rfl
  have e : l * 2 ^ s % R = 2 ^ s * (l % 2 ^ (32 - s)) := by rw [hR, Nat.mul_comm l, Nat.mul_mod_mul_left]
  refine ⟨by rw [e]; exact Nat.mul_mod_right _ _, ?_, ?_⟩
  · rw [e]
    have h1 : l % 2 ^ (32 - s) + 1 ≤ 2 ^ (32 - s) := Nat.mod_lt _ (Nat.two_pow_pos _)
    have h2 := Nat.mul_le_mul_left (2 ^ s) h1
    rw [← hR, Nat.mul_add] at h2
    omega
  · rw [Nat.div_lt_iff_lt_mul R_pos, Nat.mul_comm (2 ^ s)]
    exact Nat.mul_lt_mul_of_pos_right hl (Nat.two_pow_pos s)
/-- T + P c = X s goes on by a limb l: what is written is 'l s mod R + c', what is carried 'l s / R'. -/
theorem up_step {T P c X l m : Nat} (h : T + P * c = X * m) : (T + P * (l * m % R + c)) + P * R * (l * m / R) = (X + P * l) * m := by
  have := column P (l * m)
  rw [Nat.add_mul, ← h, Nat.mul_add, Nat.mul_assoc P l]
  omega

/-! ### a shift down -/
theorem down_limb {s a b : Nat} (hs : s < 32) (ha : a < R) : (a + b * R) / 2 ^ s % R = a / 2 ^ s + b % 2 ^ s * 2 ^ (32 - s) := by
  have hR : R = 2 ^ s * 2 ^ (32 - s) := by rw [← Nat.pow_add, show s + (32 - s) = 32 by omega]; rfl
  have h1 : (a + b * R) / 2 ^ s = a / 2 ^ s + b * 2 ^ (32 - s) := by
    rw [hR, ← Nat.mul_assoc, Nat.mul_comm b, Nat.mul_assoc, Nat.add_mul_div_left _ _ (Nat.two_pow_pos s)]
  have h2 : b * 2 ^ (32 - s) = b % 2 ^ s * 2 ^ (32 - s) + R * (b / 2 ^ s) := by
    conv => lhs; rw [← Nat.mod_add_div b (2 ^ s)]
    rw [Nat.add_mul, hR]
    congr 1
    rw [Nat.mul_assoc, Nat.mul_comm (b / 2 ^ s), ← Nat.mul_assoc]
  rw [h1, h2, ← Nat.add_assoc, Nat.add_mul_mod_self_left]
  apply Nat.mod_eq_of_lt
  have h3 : a / 2 ^ s < 2 ^ (32 - s) := by rw [Nat.div_lt_iff_lt_mul (Nat.two_pow_pos s), Nat.mul_comm, ← hR]; exact ha
  have h4 : b % 2 ^ s + 1 ≤ 2 ^ s := Nat.mod_lt _ (Nat.two_pow_pos s)
  have h5 := Nat.mul_le_mul_right (2 ^ (32 - s)) h4
  rw [← hR, Nat.add_mul] at h5
  omega
/-- A number whose lowest limb is a, shifted down. -/
theorem down_step {s a b b0 : Nat} (hs : s < 32) (ha : a < R) (hb : b % 2 ^ s = b0 % 2 ^ s) : (a + R * b) / 2 ^ s = (a + b0 * R) / 2 ^ s % R + R * (b / 2 ^ s) := by
  have hR : R = 2 ^ s * 2 ^ (32 - s) := by rw [← Nat.pow_add, show s + (32 - s) = 32 by omega]; rfl
  rw [down_limb hs ha, ← hb]
  have h1 : (a + R * b) / 2 ^ s = a / 2 ^ s + b * 2 ^ (32 - s) := by
    rw [hR, Nat.mul_assoc, Nat.add_mul_div_left _ _ (Nat.two_pow_pos s), Nat.mul_comm b]
  have h2 : b * 2 ^ (32 - s) = b % 2 ^ s * 2 ^ (32 - s) + R * (b / 2 ^ s) := by
    conv => lhs; rw [← Nat.mod_add_div b (2 ^ s)]
    rw [Nat.add_mul, hR]
    congr 1
    rw [Nat.mul_assoc, Nat.mul_comm (b / 2 ^ s), ← Nat.mul_assoc]
  rw [h1, h2]
  omega
theorem val_drop_mod (L : List Int) (i s : Nat) (hs : s < 32) : val (L.drop i) % 2 ^ s = lb L i % 2 ^ s := by
  by_cases h : i < L.length
  · have hR : R = 2 ^ s * 2 ^ (32 - s) := by rw [← Nat.pow_add, show s + (32 - s) = 32 by omega]; rfl
    rw [val_drop L i h, hR, Nat.mul_assoc, Nat.add_mul_mod_self_left]
  · rw [List.drop_of_length_le (by omega), lb, nth_out _ _ (by omega)]; rfl

/-! ### Knuth's estimate -/
/-- The digit that is sought. -/
theorem digit_le_top {W V v1 P top : Nat} (hV : v1 * P ≤ V) (hW : W < (top + 1) * P) (q : Nat) (hq : q * V ≤ W) : q * v1 ≤ top := by
  have h1 : q * v1 * P ≤ W := by rw [Nat.mul_assoc]; exact Nat.le_trans (Nat.mul_le_mul_left _ hV) hq
  have h2 : q * v1 * P < (top + 1) * P := Nat.lt_of_le_of_lt h1 hW
  have := Nat.lt_of_mul_lt_mul_right h2
  omega

theorem est_pair {q V U v1 v2 T u3 P : Nat} (hq : q * V ≤ U) (hV : (v1 * R + v2) * P ≤ V) (hU : U < (T * R + u3 + 1) * P) : q * (v1 * R + v2) ≤ T * R + u3 := digit_le_top hV hU q hq
theorem est_one {q v1 v2 T u3 : Nat} (h : q * (v1 * R + v2) ≤ T * R + u3) (hu : u3 < R) : q * v1 ≤ T := by
  have h1 : q * v1 * R ≤ T * R + u3 := by
    refine Nat.le_trans ?_ h
    rw [Nat.mul_add, Nat.mul_assoc]; omega
  have h2 : q * v1 * R < (T + 1) * R := by rw [Nat.add_mul]; omega
  have := Nat.lt_of_mul_lt_mul_right h2
  omega
theorem est_down {q d v1 v2 T r u3 : Nat} (h : q * (v1 * R + v2) ≤ T * R + u3) (ht : d * v1 + r = T) (hq : q ≤ d) (hgt : r * R + u3 < d * v2) : q ≤ d - 1 := by
  rcases Nat.lt_or_ge q d with hlt | hge
  · omega
  · obtain rfl : q = d := by omega
    rw [← ht, Nat.mul_add, Nat.add_mul, ← Nat.mul_assoc] at h
    omega
theorem val_two (V : List Int) (k : Nat) (h : V.length = k + 2) : val V = val (V.take k) + R ^ k * (lb V (k + 1) * R + lb V k) := by
  have e1 := val_split V k (by omega)
  have e2 := val_drop V k (by omega)
  have e3 := val_drop V (k + 1) (by omega)
  have e4 : val (V.drop (k + 1 + 1)) = 0 := by rw [List.drop_of_length_le (by omega)]; rfl
  rw [e1, e2, e3, e4, Nat.mul_zero, Nat.add_zero, Nat.mul_comm R, Nat.add_comm (lb V k)]
theorem val_three (U : List Int) (k : Nat) (h : U.length = k + 3) : val U = val (U.take k) + R ^ k * ((lb U (k + 2) * R + lb U (k + 1)) * R + lb U k) := by
  have e1 := val_split U k (by omega)
  have e2 := val_drop U k (by omega)
  have e3 := val_drop U (k + 1) (by omega)
  have e4 := val_drop U (k + 2) (by omega)
  have e5 : val (U.drop (k + 2 + 1)) = 0 := by rw [List.drop_of_length_le (by omega)]; rfl
  rw [e1, e2, e3, e4, e5, Nat.mul_zero, Nat.add_zero, Nat.mul_comm R, Nat.mul_comm R, Nat.add_comm (lb U (k + 1)), Nat.add_comm (lb U k), Nat.add_zero]
end Go.Sg
