/- signetref6.Bit, nat.Bit, by their contracts. -/
import Derived.Test.YtnlmkikaaifcmaaRefB
set_option linter.unusedVariables false
set_option linter.unusedSimpArgs false
namespace Go.Proofs.Ytnlmkikaaifcmaa
open Go.RowKit Go.Sg


theorem bitB_neg (n : Nat) (i : Int) (h : i < 0) : bitB n i = false := decide_eq_false fun hh => by omega
theorem bitB_nat (zs : List Int) (uz : U32 zs) (i : Nat) : bitB (val zs) (i : Int) = decide (lb zs (i / 32) / 2 ^ (i % 32) % 2 = 1) := by
  unfold bitB
  rw [Int.toNat_natCast, bit_limb uz]
  exact decide_eq_decide.2 ⟨fun h => h.2, fun h => ⟨by omega, h⟩⟩
theorem bitB_out (zs : List Int) (uz : U32 zs) (i : Nat) (h : zs.length ≤ i / 32) : bitB (val zs) (i : Int) = false := by
  rw [bitB_nat _ uz, lb, nth_out _ _ h]; simp

set_option maxHeartbeats 1000000 in
theorem Bit_c (a : Option Addr) (cap : Nat) (zs : List Int) (i : Int) (w : World) (hc : Sl .u32 w a cap zs) (ux : U32 zs) (hi : -9223372036854775808 ≤ i ∧ i ≤ 9223372036854775807) :
    Calls Try.prog 27 #[.slice a zs.length cap, .int .i64 i] w (BoolPost (bitB (val zs) i) w) := by
  have hm := hc.max
  obtain ⟨i1, i2⟩ := hi
  by_cases hneg : i < 0
  · have hb := Lib.hid (bitB_neg (val zs) i hneg)
    go_enter Try.func27, Try.ntmps27
    go_wp2
    go_ret
    exact ⟨by rw [hb.out]; rfl, .refl _⟩
  · obtain ⟨n, rfl⟩ := Int.eq_ofNat_of_zero_le (show 0 ≤ i by omega)
    have h0 : (0 : Int) ≤ (n : Int) := by omega
    by_cases hlen : zs.length ≤ n / 32
    · have hb := Lib.hid (bitB_out zs ux n hlen)
      have h3 : ¬ (n : Int) / 32 < (zs.length : Int) := by omega
      go_enter Try.func27, Try.ntmps27
      go_wp2_with fail
      go_ret
      exact ⟨by rw [hb.out]; rfl, .refl _⟩
    · have hb := Lib.hid (bitB_nat zs ux n)
      have h3 : (n : Int) / 32 < (zs.length : Int) := by omega
      obtain ⟨b, off, rfl, hcc⟩ := hc.cells (by omega)
      have hcell := hcc (n / 32) (by omega)
      have hbx := ux (n / 32)
      have hlt : n / 32 < zs.length := by omega
      have hlb := Lib.hid (show nth zs (n / 32) = ((lb zs (n / 32) : Nat) : Int) from (lb_cast ux _).symm)
      have hlr := Lib.hid (lb_lt ux (n / 32))
      clear hcc
      go_enter Try.func27, Try.ntmps27
      go_wp2_with fail
      go_ret
      refine ⟨?_, .refl _⟩
      rw [hb.out]
      refine congrArg Ending.returned (congrArg Value.bool ?_)
      have hr := hlr.out
      unfold R at hr
      have e : ((lb zs (n / 32) : Nat) : Int) / 2 ^ (n % 32) = ((lb zs (n / 32) / 2 ^ (n % 32) : Nat) : Int) := by rw [Int.natCast_ediv, Int.natCast_pow]; rfl
      have hd : lb zs (n / 32) / 2 ^ (n % 32) < 4294967296 := Nat.lt_of_le_of_lt (Nat.div_le_self _ _) hr
      rw [hlb.out, e, show (1 : Int) = ((1 : Nat) : Int) from rfl, u32_and_nat _ _ hd (by omega), nat_mask1, Bool.eq_iff_iff]
      simp
      omega
end Go.Proofs.Ytnlmkikaaifcmaa
