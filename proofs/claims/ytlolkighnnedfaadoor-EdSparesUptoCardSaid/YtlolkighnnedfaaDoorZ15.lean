import Derived.Test.YtlolkighnnedfaaDoorZ12
import Derived.Test.YtlolkighnnedfaaDoorZ14
/- The field's reckoning in the words of modn; multiples and tests as the program makes them. No program in sight. -/
set_option linter.unusedVariables false
set_option linter.unusedSimpArgs false
namespace Go.Sg
theorem fp_subM (x y : Fp) : (x - y).val = subM x.val y.val eP := by
  have hx := x.isLt
  have hy := y.isLt
  rw [fp_sub]
  unfold subM
  generalize x.val = a at *
  generalize y.val = b at *
  generalize eP = p at *
  split
  · rw [show p - b + a = (a - b) + p by omega, Nat.add_mod_right, Nat.mod_eq_of_lt (by omega)]
  · rw [Nat.mod_eq_of_lt (by omega)]
    omega
theorem bigP : bigB eP = false := by decide +kernel
theorem bigL : bigB eL = false := by decide +kernel
theorem twoP : 2 ≤ eP := by decide +kernel
theorem twoL : 2 ≤ eL := by decide +kernel
theorem fp_big (x : Fp) : bigB x.val = false := bigB_le (Nat.le_of_lt x.isLt) bigP
theorem ok_fp (x y : Fp) : Ok3 x.val y.val eP := ⟨fp_big x, fp_big y, bigP, twoP⟩
theorem lim_eP : Lim 8 eP := ⟨by decide +kernel⟩
theorem lim_eL : Lim 8 eL := ⟨by decide +kernel⟩
theorem lim_fp (x : Fp) : Lim 8 x.val := lim_eP.le (Nat.le_of_lt x.isLt)
theorem fp_mod (x : Fp) : x.val % eP = x.val := Nat.mod_eq_of_lt x.isLt
theorem fp_inv {z : Fp} {x : Nat} (hz : z ≠ 0) (hx : x < eP) (h : x * z.val % eP = 1) : x = (finv z).val := by
  have h1 : (⟨x, hx⟩ : Fp) * z = 1 := fp_ext (by rw [fp_mul, fp_one]; exact h)
  have h2 := finv_mul hz
  have h3 : (⟨x, hx⟩ : Fp) = finv z := by
    refine fp_cancel hz ?_
    rw [h2, ← h1]
    grind
  rw [← h3]
theorem fp_gcd {z : Fp} (hz : z ≠ 0) : Nat.gcd z.val eP = 1 := by
  rw [Nat.gcd_comm]
  exact pr_eP.cop fun hd => hz (fp_dvd hd)
theorem fpow_val (x : Fp) (k : Nat) : (fpow x k).val = x.val ^ k % eP := rfl
end Go.Sg
/- When three numbers and a mark are a point of the curve. No program in sight. -/
set_option linter.unusedVariables false
set_option linter.unusedSimpArgs false
namespace Go.Sg
def ptOf (X Y : Nat) (inf : Bool) : Option Pt := if h : inf = false ∧ X < eP ∧ Y < eP then (if OnC (⟨X, h.2.1⟩, ⟨Y, h.2.2⟩) then some (⟨X, h.2.1⟩, ⟨Y, h.2.2⟩) else none) else none
def onB (X Y : Nat) (inf : Bool) : Bool := (ptOf X Y inf).isSome
theorem ptOf_some {X Y : Nat} {inf : Bool} {P : Pt} (h : ptOf X Y inf = some P) : inf = false ∧ X = P.1.val ∧ Y = P.2.val ∧ OnC P := by
  unfold ptOf at h
  split at h
  · rename_i hh
    split at h
    · rename_i ho
      obtain rfl := Option.some.inj h
      exact ⟨hh.1, rfl, rfl, ho⟩
    · cases h
  · cases h
theorem ptOf_of {P : Pt} (h : OnC P) : ptOf P.1.val P.2.val false = some P := by
  unfold ptOf
  rw [dif_pos ⟨rfl, P.1.isLt, P.2.isLt⟩, if_pos h]
theorem onB_of {P : Pt} (h : OnC P) : onB P.1.val P.2.val false = true := by unfold onB; rw [ptOf_of h]; rfl
theorem onB_yes {X Y : Nat} {inf : Bool} (h : onB X Y inf = true) : ∃ P, ptOf X Y inf = some P := Option.isSome_iff_exists.1 h
theorem onB_inf (X Y : Nat) : onB X Y true = false := by unfold onB ptOf; rw [dif_neg (by simp)]; rfl
theorem onB_x {X Y : Nat} {inf : Bool} (h : ¬ X < eP) : onB X Y inf = false := by unfold onB ptOf; rw [dif_neg (fun k => h k.2.1)]; rfl
theorem onB_y {X Y : Nat} {inf : Bool} (h : ¬ Y < eP) : onB X Y inf = false := by unfold onB ptOf; rw [dif_neg (fun k => h k.2.2)]; rfl
theorem onB_no {x y : Fp} (h : ¬ y * y - x * x = 1 + eD * (x * x * (y * y))) : onB x.val y.val false = false := by
  have := onB_yes (X := x.val) (Y := y.val) (inf := false)
  cases hb : onB x.val y.val false with
  | false => rfl
  | true =>
    obtain ⟨P, hP⟩ := this hb
    obtain ⟨_, h1, h2, h3⟩ := ptOf_some hP
    obtain ⟨px, py⟩ := P
    have e1 : x = px := fp_ext h1
    have e2 : y = py := fp_ext h2
    subst e1 e2
    exact absurd h3 h
theorem onB_is {x y : Fp} (h : y * y - x * x = 1 + eD * (x * x * (y * y))) : onB x.val y.val false = true := onB_of (P := (x, y)) h
theorem eRoot_no1 {y : Fp} {odd : Bool} (h : eR1 y * eR1 y ≠ eXX y) : eRoot y odd = none := by unfold eRoot; rw [if_pos (.inl h)]
theorem eRoot_no2 {y : Fp} (h : eR1 y = 0) : eRoot y true = none := by unfold eRoot; rw [if_pos (.inr ⟨h, rfl⟩)]
theorem eRoot_yes {y : Fp} {odd : Bool} (h : eR1 y * eR1 y = eXX y) (h2 : eR1 y = 0 → odd = false) : eRoot y odd = some (if eOdd (eR1 y) = odd then eR1 y else 0 - eR1 y) := by
  unfold eRoot
  rw [if_neg]
  rintro (k | ⟨k, k2⟩)
  · exact k h
  · rw [h2 k] at k2
    cases k2
theorem eR1_yes {y : Fp} (h : eR0 y * eR0 y = eXX y) : eR1 y = eR0 y := by unfold eR1; rw [if_pos h]
theorem eR1_no {y : Fp} (h : eR0 y * eR0 y ≠ eXX y) : eR1 y = eR0 y * eI := by unfold eR1; rw [if_neg h]
theorem fp_bl0 {x : Fp} : bl x.val = 0 ↔ x = 0 := by
  constructor
  · intro h
    have := (bl_le_iff x.val 0).1 (by omega)
    exact fp_ext (by rw [fp_zero]; simpa using this)
  · rintro rfl
    rw [fp_zero]; rfl
theorem bigP8 : bigB ((eP + 3) / 8) = false := by decide +kernel
end Go.Sg
/- The highest bit of 32 bytes. No program in sight. -/
set_option linter.unusedVariables false
set_option linter.unusedSimpArgs false
namespace Go.Sg
theorem bval_cons (x : Int) (r : List Int) : bval (x :: r) = x.toNat * 256 ^ r.length + bval r := by
  have := bval_foldl r (0 * 256 + x.toNat)
  have e : 0 * 256 + x.toNat = x.toNat := by omega
  rw [e] at this
  show List.foldl (fun n (x : Int) => n * 256 + x.toNat) (0 * 256 + x.toNat) r = _
  rw [e]
  exact this
theorem lnum_snoc (ys : List Int) (b : Int) : lnum (ys ++ [b]) = lnum ys + 256 ^ ys.length * b.toNat := by
  unfold lnum
  rw [List.reverse_append, List.reverse_singleton, List.singleton_append, bval_cons, List.length_reverse, Nat.mul_comm]
  omega
theorem lnum_top {xs : List Int} (hl : xs.length = 32) : lnum xs = lnum (xs.take 31) + 256 ^ 31 * (nth xs 31).toNat := by
  have h := take_succ_nth xs 31 (by omega)
  rw [show 31 + 1 = xs.length by omega, List.take_length] at h
  conv => lhs; rw [h]
  rw [lnum_snoc, List.length_take, hl]
  rfl
theorem lnum_lt {xs : List Int} (u : U8 xs) : lnum xs < 256 ^ xs.length := by
  have := bval_lt (u.reverse (by omega))
  rwa [List.length_reverse] at this
theorem lnum_set {xs : List Int} (hl : xs.length = 32) (m : Int) : lnum (xs.set 31 m) = lnum (xs.take 31) + 256 ^ 31 * m.toNat := by
  rw [lnum_top (by rw [List.length_set]; exact hl), List.take_set_of_le (Nat.le_refl _), nth_set _ _ _ _ (by omega), if_pos rfl]
theorem lnum_bits {xs : List Int} (hl : xs.length = 32) (u : U8 xs) {b : Nat} (hb : (b : Int) = nth xs 31) : lnum (xs.set 31 ((b % 128 : Nat) : Int)) = lnum xs % 2 ^ 255 ∧ (2 ^ 255 ≤ lnum xs ↔ 128 ≤ b) := by
  have h1 := lnum_lt (u.take (by omega) 31)
  rw [List.length_take, hl, Nat.min_eq_left (by omega)] at h1
  rw [lnum_set hl, lnum_top hl, ← hb, Int.toNat_natCast, Int.toNat_natCast]
  have e : (2 : Nat) ^ 255 = 256 ^ 31 * 128 := by decide +kernel
  have hb2 : b < 256 := by have := u 31; omega
  rw [e]
  generalize (256 : Nat) ^ 31 = M at *
  generalize lnum (xs.take 31) = a at *
  have h2 := Nat.div_add_mod b 128
  have h3 := Nat.mod_lt b (show 0 < 128 by omega)
  constructor
  · have e2 : a + M * b = (a + M * (b % 128)) + M * 128 * (b / 128) := by
      have : M * b = M * (128 * (b / 128) + b % 128) := by rw [h2]
      rw [this, Nat.mul_add, Nat.mul_assoc]; omega
    have h4 : a + M * (b % 128) < M * 128 := by
      have : M * (b % 128 + 1) ≤ M * 128 := Nat.mul_le_mul_left _ (by omega)
      rw [Nat.mul_add] at this
      omega
    rw [e2, Nat.add_mul_mod_self_left, Nat.mod_eq_of_lt h4]
  · constructor
    · intro h
      refine Nat.not_lt.1 fun hlt => ?_
      have : M * (b + 1) ≤ M * 128 := Nat.mul_le_mul_left _ (by omega)
      rw [Nat.mul_add] at this
      omega
    · intro h
      have : M * 128 ≤ M * b := Nat.mul_le_mul_left _ h
      omega
theorem decB_len {xs : List Int} (h : xs.length ≠ 32) : decB xs = none := by unfold decB; rw [if_neg h]
theorem decB_big {xs : List Int} (h : ¬ lnum xs % 2 ^ 255 < eP) : decB xs = none := by
  unfold decB decN
  split
  · first | rfl | rw [dif_neg h]
  · rfl
theorem decB_is {xs : List Int} (hl : xs.length = 32) {y : Fp} (h : lnum xs % 2 ^ 255 = y.val) {o : Bool} (ho : o = decide (2 ^ 255 ≤ lnum xs)) : decB xs = (eRoot y o).map fun x => (x, y) := by
  unfold decB decN
  rw [if_pos hl, ho]
  have hlt : lnum xs % 2 ^ 255 < eP := by rw [h]; exact y.isLt
  have e : (⟨lnum xs % 2 ^ 255, hlt⟩ : Fp) = y := fp_ext h
  rw [dif_pos hlt, e]
theorem encB_even {P : Pt} (h : ¬ P.1.val % 2 = 1) : encB P = (beN P.2.val 32).reverse := by
  have h0 : P.1.val % 2 = 0 := by omega
  unfold encB encN
  rw [h0, Nat.mul_zero, Nat.add_zero]
theorem lnum_beN {n : Nat} (h : n < 256 ^ 32) : lnum (beN n 32).reverse = n := by
  unfold lnum
  rw [List.reverse_reverse, bval_beN _ _ h]
theorem fp_256 (x : Fp) : x.val < 2 ^ 255 ∧ x.val < 256 ^ 32 := by
  have h1 := x.isLt
  have h2 := eP_lt
  have h3 : (2 : Nat) ^ 255 < 256 ^ 32 := by decide +kernel
  constructor
  · exact Nat.lt_trans h1 h2
  · exact Nat.lt_trans (Nat.lt_trans h1 h2) h3
theorem encB_odd {P : Pt} (h : P.1.val % 2 = 1) {b : Nat} (hb : (b : Int) = nth (beN P.2.val 32).reverse 31) : b < 128 ∧ ((beN P.2.val 32).reverse).set 31 ((b + 128 : Nat) : Int) = encB P := by
  have u : U8 (beN P.2.val 32).reverse := (beN_u8 _ _).reverse (by omega)
  have hl : (beN P.2.val 32).reverse.length = 32 := by rw [List.length_reverse, beN_len]
  have hn := lnum_beN (fp_256 P.2).2
  have h1 := (lnum_bits hl u hb).2
  rw [hn] at h1
  have h2 := (fp_256 P.2).1
  have hlt : b < 128 := Nat.not_le.1 fun k => Nat.not_lt.2 (h1.2 k) h2
  refine ⟨hlt, ?_⟩
  refine lnum_inj (n := 32) (by rw [List.length_set, hl]) (encB_len P) ?_ ?_ ?_
  · exact ((u.set 31 (by omega) (by omega)).reverse (by omega))
  · unfold encB
    rw [List.reverse_reverse]
    exact beN_u8 _ _
  · rw [lnum_encB, lnum_set hl, Int.toNat_natCast]
    have h5 := lnum_top hl
    rw [hn, ← hb, Int.toNat_natCast] at h5
    unfold encN
    rw [h]
    have e : (2 : Nat) ^ 255 = 256 ^ 31 * 128 := by decide +kernel
    rw [e]
    generalize lnum ((beN P.2.val 32).reverse.take 31) = A at h5 ⊢
    clear hb h1 h2 hlt hn hl u
    generalize P.2.val = y at h5 ⊢
    generalize (256 : Nat) ^ 31 = M at h5 ⊢
    rw [Nat.mul_add, Nat.mul_one]
    omega
theorem and128 (b : Nat) (h : b < 256) : bits .and .u8 (b : Int) 128 = if 128 ≤ b then 128 else 0 := by
  have : ∀ b : Fin 256, bits .and .u8 (b.val : Int) 128 = if 128 ≤ b.val then 128 else 0 := by decide +kernel
  exact this ⟨b, h⟩
theorem and127 (b : Nat) (h : b < 256) : bits .and .u8 (b : Int) 127 = ((b % 128 : Nat) : Int) := by
  have : ∀ b : Fin 256, bits .and .u8 (b.val : Int) 127 = ((b.val % 128 : Nat) : Int) := by decide +kernel
  exact this ⟨b, h⟩
theorem or128 (b : Nat) (h : b < 128) : bits .or .u8 (b : Int) 128 = ((b + 128 : Nat) : Int) := by
  have : ∀ b : Fin 128, bits .or .u8 (b.val : Int) 128 = ((b.val + 128 : Nat) : Int) := by decide +kernel
  exact this ⟨b, h⟩
end Go.Sg
