import Derived.Test.YtlolkighnnedfaaDoorZ3
import Derived.Test.YtlolkighnnedfaaDoorZ1
/- math/bits: Len32 and LeadingZeros32 by their contracts (the walks are the guide's own, over this program). -/
set_option linter.unusedVariables false
set_option linter.unusedSimpArgs false
namespace Go.Proofs.YtlolkighnnedfaaDoor
open Go.RowKit Go.Sg

theorem bitLen_bl (x : Nat) (h : x < 2 ^ 64) : Lib.bitLen x = bl x := by
  suffices ∀ k x, x < 2 ^ k → k ≤ 64 → Lib.bitLen x = bl x from this 64 x h (by omega)
  intro k
  induction k with
  | zero =>
    intro x hx _
    obtain rfl : x = 0 := by omega
    rfl
  | succ k ih =>
    intro x hx hk
    by_cases h0 : x = 0
    · subst h0; rfl
    · have h64 : x < 2 ^ 64 := Nat.lt_of_lt_of_le hx (Nat.pow_le_pow_right (by decide) hk)
      rw [Lib.bitLen_half x h0 h64, ih (x / 2) (by rw [Nat.pow_succ] at hx; omega) (by omega)]
      by_cases h1 : x / 2 = 0
      · have : x = 1 := by omega
        subst this
        decide
      · have e := bl_add_low (x / 2) 1 (x % 2) h1 (by omega)
        rw [show x % 2 + 2 ^ 1 * (x / 2) = x by omega] at e
        omega

theorem Len32_c (x : Int) (w : World) (h0 : 0 ≤ x) (h1 : x ≤ 4294967295) :
    Calls Tryd.prog 92 #[.int .u32 x] w fun e w' => e = .returned (.int .i64 (bl x.toNat)) ∧ w = w' := by
  rw [← bitLen_bl _ (by omega)]
  exact Len32_b x w h0 h1

theorem bl_u32 (x : Int) (h0 : 0 ≤ x) (h1 : x ≤ 4294967295) : bl x.toNat ≤ 32 := (bl_le_iff _ _).2 (by omega)

set_option maxHeartbeats 1000000 in
theorem LeadingZeros32_c (x : Int) (w : World) (h0 : 0 ≤ x) (h1 : x ≤ 4294967295) :
    Calls Tryd.prog 126 #[.int .u32 x] w fun e w' => e = .returned (.int .i64 (32 - (bl x.toNat : Int))) ∧ w = w' := by
  have l := bl_u32 x h0 h1
  go_enter Tryd.func126, Tryd.ntmps126
  go_wp2_with (go_at_call 92; refine (Len32_c _ _ h0 h1).mono ?_; rintro e w' ⟨rfl, rfl⟩)
  go_ret
  exact ⟨rfl, rfl⟩
end Go.Proofs.YtlolkighnnedfaaDoor
