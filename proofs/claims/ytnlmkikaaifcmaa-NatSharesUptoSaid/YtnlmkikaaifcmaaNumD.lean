/- The long division's sums. -/
import Derived.Test.YtnlmkikaaifcmaaNumC
set_option linter.unusedVariables false
set_option linter.unusedSimpArgs false
namespace Go.Sg

theorem val_parts (L : List Int) (off n : Nat) (h : off + n ≤ L.length) : val L = val (L.take off) + R ^ off * (val (sub L off n) + R ^ n * val (L.drop (off + n))) := by
  rw [val_split L off (by omega), val_split (L.drop off) n (by simp; omega), List.drop_drop, sub]

theorem val_window {U : List Int} {off n : Nat} (h : off + n ≤ U.length) (hlt : val U < R ^ (off + n)) : val U = val (U.take off) + R ^ off * val (sub U off n) := by
  have e := val_parts U off n h
  have h0 : val (U.drop (off + n)) = 0 := by
    rcases Nat.eq_zero_or_pos (val (U.drop (off + n))) with h | h
    · exact h
    · exfalso
      have h1 : R ^ off * (R ^ n * 1) ≤ R ^ off * (val (sub U off n) + R ^ n * val (U.drop (off + n))) := Nat.mul_le_mul_left _ (Nat.le_trans (Nat.mul_le_mul_left _ h) (Nat.le_add_left _ _))
      rw [Nat.mul_one, ← Nat.pow_add] at h1
      omega
  rw [h0, Nat.mul_zero, Nat.add_zero] at e
  exact e

def LongU (N v j : Nat) (U Q : List Int) : Prop := N = v * (R ^ j * val (Q.drop j)) + val U ∧ val U < v * R ^ j

theorem LongU.window {N v j n : Nat} {U Q : List Int} (h : LongU N v (j + 1) U Q) (hv : v < R ^ n) (hl : j + (n + 1) ≤ U.length) :
    val U = val (U.take j) + R ^ j * val (sub U j (n + 1)) ∧ val (sub U j (n + 1)) < v * R := by
  have h1 : val U < R ^ (j + (n + 1)) := by
    refine Nat.lt_of_lt_of_le h.2 ?_
    have : v * R ^ (j + 1) ≤ R ^ n * R ^ (j + 1) := Nat.mul_le_mul_right _ (Nat.le_of_lt hv)
    rw [← Nat.pow_add] at this
    rwa [show j + (n + 1) = n + (j + 1) by omega]
  have e := val_window hl h1
  refine ⟨e, ?_⟩
  have h2 := h.2
  rw [e] at h2
  have h3 : R ^ j * val (sub U j (n + 1)) < R ^ j * (v * R) := by
    have e3 : R ^ j * (v * R) = v * R ^ (j + 1) := by rw [Nat.pow_succ, Nat.mul_left_comm]
    rw [e3]
    omega
  exact Nat.lt_of_mul_lt_mul_left h3

theorem drop_set_here (L : List Int) (i : Nat) (v : Int) (h : i < L.length) : (L.set i v).drop i = v :: L.drop (i + 1) := by
  rw [drop_nth _ _ (by simpa using h), nth_set _ _ _ _ h, if_pos rfl, List.drop_set_of_lt (by omega)]

theorem LongU.step {N v j n d b : Nat} {U Q U' P : List Int} (h : LongU N v (j + 1) U Q) (hv : v < R ^ n) (hl : j + (n + 1) ≤ U.length) (uU : U32 U) (uU' : U32 U') (hlen : U'.length = U.length)
    (hout : ∀ i, i < j ∨ j + (n + 1) ≤ i → nth U' i = nth U i) (hb : b ≤ 1) (hval : val (sub U' j (n + 1)) + val P = val (sub U j (n + 1)) + R ^ (n + 1) * b) (hP : val P = d * v)
    (hle : d * v ≤ val (sub U j (n + 1))) (hlt : val (sub U j (n + 1)) < (d + 1) * v) (hj : j < Q.length) : LongU N v j U' (Q.set j (d : Int)) := by
  obtain ⟨e, hW⟩ := h.window hv hl
  have hsub := val_sub_lt uU' j (n + 1)
  have hb0 : b = 0 := by
    rcases (show b = 0 ∨ b = 1 by omega) with h | h
    · exact h
    · rw [h] at hval; omega
  rw [hb0, hP, Nat.mul_zero] at hval
  replace hval : val (sub U' j (n + 1)) + d * v = val (sub U j (n + 1)) := hval
  have t1 : U'.take j = U.take j := ext_nth _ _ (by simp; omega) fun i hi => by
    have hij : i < j := by simp at hi; omega
    rw [nth_take _ _ _ hij, nth_take _ _ _ hij]
    exact hout i (by omega)
  have t2 : U'.drop (j + (n + 1)) = U.drop (j + (n + 1)) := ext_nth _ _ (by simp; omega) fun i hi => by
    rw [nth_drop, nth_drop]
    exact hout _ (by omega)
  have p1 := val_parts U j (n + 1) hl
  have p2 := val_parts U' j (n + 1) (by omega)
  rw [t1, t2] at p2
  have key : val U = val U' + R ^ j * (d * v) := by
    rw [p1, p2, ← hval, Nat.add_assoc (val (U.take j)), ← Nat.mul_add, Nat.add_right_comm]
  have hlow := val_take_lt uU j (by omega)
  refine ⟨?_, ?_⟩
  · rw [h.1, drop_set_here Q j _ hj, key]
    show _ = v * (R ^ j * ((d : Int).toNat + R * val (Q.drop (j + 1)))) + val U'
    rw [Int.toNat_natCast, Nat.mul_add, Nat.mul_add, Nat.pow_succ]
    have e1 : v * (R ^ j * d) = R ^ j * (d * v) := by rw [Nat.mul_left_comm, Nat.mul_comm v d]
    have e2 : v * (R ^ j * R * val (Q.drop (j + 1))) = v * (R ^ j * (R * val (Q.drop (j + 1)))) := by rw [Nat.mul_assoc (R ^ j)]
    rw [e1, e2]
    omega
  · have h1 : val (sub U' j (n + 1)) + 1 ≤ v := by rw [Nat.add_mul, Nat.one_mul] at hlt; omega
    have h2 : val U' = val (U.take j) + R ^ j * val (sub U' j (n + 1)) := by
      rw [key, ← hval, Nat.mul_add] at e
      omega
    have h3 := Nat.mul_le_mul_left (R ^ j) h1
    rw [Nat.mul_add, Nat.mul_one] at h3
    rw [h2, Nat.mul_comm v]
    omega

theorem LongU.done {N v : Nat} {U Q : List Int} (h : LongU N v 0 U Q) : N = v * val Q + val U ∧ val U < v := by
  have h1 := h.1
  have h2 := h.2
  rw [Nat.pow_zero, Nat.one_mul, List.drop_zero] at h1
  rw [Nat.pow_zero, Nat.mul_one] at h2
  exact ⟨h1, h2⟩

theorem long_fin {x y q u p : Nat} (hp : 0 < p) (h : x * p = (y * p) * q + u) (hu : u < y * p) : q = x / y ∧ u / p = x % y := by
  have h1 : (y * p) * q = (y * q) * p := by rw [Nat.mul_right_comm]
  have h2 : y * q ≤ x := by
    apply Nat.le_of_mul_le_mul_right _ hp
    omega
  obtain ⟨r, rfl⟩ : ∃ r, x = y * q + r := ⟨x - y * q, by omega⟩
  have h3 : u = r * p := by rw [Nat.add_mul] at h; omega
  have hr : r < y := by rw [h3] at hu; exact Nat.lt_of_mul_lt_mul_right hu
  refine ⟨?_, ?_⟩
  · rw [Nat.mul_add_div (by omega), Nat.div_eq_of_lt hr, Nat.add_zero]
  · rw [h3, Nat.mul_div_cancel _ hp, Nat.mul_add_mod, Nat.mod_eq_of_lt hr]

theorem no_carry {a c n N : Nat} (h : a + R ^ n * c = N) (hN : N < R ^ n) : a = N := by
  rcases Nat.eq_zero_or_pos c with h0 | h0
  · rw [h0] at h; omega
  · have := Nat.mul_le_mul_left (R ^ n) h0
    omega

/-- The divisor moved up: its top bit stands at the top. -/
theorem top_norm {Y : List Int} {k : Nat} (uy : U32 Y) (hl : Y.length = k + 2) (h0 : lb Y (k + 1) ≠ 0) : val Y * 2 ^ (32 - bl (lb Y (k + 1))) < R ^ (k + 2) ∧ R ^ (k + 1) ≤ val Y := by
  have e := val_take_next Y (k + 1)
  rw [List.take_of_length_le (by omega)] at e
  have t := val_take_lt uy (k + 1) (by omega)
  have hb := lb_lt uy (k + 1)
  generalize lb Y (k + 1) = y1 at *
  have h32 : bl y1 ≤ 32 := (bl_le_iff _ _).2 (by unfold R at hb; omega)
  have hlt := lt_bl y1
  refine ⟨?_, ?_⟩
  · have h1 : val Y < R ^ (k + 1) * (y1 + 1) := by rw [Nat.mul_add]; omega
    have h2 : R ^ (k + 1) * (y1 + 1) ≤ R ^ (k + 1) * 2 ^ bl y1 := Nat.mul_le_mul_left _ hlt
    have h3 : val Y * 2 ^ (32 - bl y1) < R ^ (k + 1) * 2 ^ bl y1 * 2 ^ (32 - bl y1) := Nat.mul_lt_mul_of_pos_right (by omega) (Nat.two_pow_pos _)
    have h4 : R ^ (k + 1) * 2 ^ bl y1 * 2 ^ (32 - bl y1) = R ^ (k + 2) := by
      rw [Nat.mul_assoc, ← Nat.pow_add, show bl y1 + (32 - bl y1) = 32 by omega, Nat.pow_succ R (k + 1)]
      rfl
    omega
  · have := Nat.mul_le_mul_left (R ^ (k + 1)) (Nat.one_le_iff_ne_zero.2 h0)
    omega

theorem top_ne {V : List Int} {k : Nat} (uv : U32 V) (hl : V.length = k + 2) (h : R ^ (k + 1) ≤ val V) : lb V (k + 1) ≠ 0 := by
  intro h0
  have e := val_take_next V (k + 1)
  rw [List.take_of_length_le (by omega), h0] at e
  have t := val_take_lt uv (k + 1) (by omega)
  omega

theorem LongU.start {y x s m k : Nat} {U Q : List Int} (hx : x < R ^ m) (hy : R ^ (k + 1) ≤ y) (hkm : k + 2 ≤ m) (hU : val U = x * 2 ^ s) (j : Nat) (hj : j = m - (k + 2) + 1) (hQ : Q.drop j = []) : LongU (x * 2 ^ s) (y * 2 ^ s) j U Q := by
  refine ⟨by rw [hQ, hU]; simp [val], ?_⟩
  rw [hU, Nat.mul_right_comm]
  refine Nat.mul_lt_mul_of_pos_right (Nat.lt_of_lt_of_le hx ?_) (Nat.two_pow_pos s)
  have : R ^ (k + 1) * R ^ j ≤ y * R ^ j := Nat.mul_le_mul_right _ hy
  rw [← Nat.pow_add, show k + 1 + j = m by omega] at this
  exact this
end Go.Sg
