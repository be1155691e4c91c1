/- Contracts of package nat in handier words. -/
import Derived.Test.YtnlmkikaaifcmaaNatW
import Derived.Test.YtnlmkikaaifcmaaRefC
set_option linter.unusedVariables false
set_option linter.unusedSimpArgs false
namespace Go.Proofs.Ytnlmkikaaifcmaa
open Go.RowKit Go.Sg
theorem Cmp_eq (a a' : Option Addr) (cap cap' : Nat) (zs ys : List Int) (w : World) (hc : Sl .u32 w a cap zs) (hc' : Sl .u32 w a' cap' ys) (ux : U32 zs) (uy : U32 ys) (h : val zs = val ys) :
    Calls Try.prog 9 #[.slice a zs.length cap, .slice a' ys.length cap'] w (CmpPost 0 w) := by
  have h2 := Cmp_c a a' cap cap' zs ys w hc hc' ux uy
  rwa [cmpI_eq h] at h2
theorem FromBytes_v (a : Option Addr) (cap n : Nat) (bs : List Int) (w : World) (hc : Sl .u8 w a cap bs) (ub : U8 bs) (hl : bs.length ≤ 140737488355328) (hv : bval bs = n) : Calls Try.prog 17 #[.slice a bs.length cap] w (NatPost n w) := by
  have h := FromBytes_c a cap bs w hc ub hl
  rwa [hv] at h
theorem Shl_k (a : Option Addr) (cap k : Nat) (zs : List Int) (w : World) (hc : Sl .u32 w a cap zs) (ux : U32 zs) (hl : zs.length ≤ 35184372088000) (hk : k ≤ 131072) : Calls Try.prog 21 #[.slice a zs.length cap, .int .i64 (k : Int)] w (NatPost (val zs * 2 ^ k) w) := by
  have h := Shl_c a cap zs (k : Int) w hc ux hl ⟨by omega, by omega⟩
  rwa [show shK (k : Int) = k by unfold shK; omega] at h
theorem Shr_k (a : Option Addr) (cap k : Nat) (zs : List Int) (w : World) (hc : Sl .u32 w a cap zs) (ux : U32 zs) (hl : zs.length ≤ 35184372088000) (hk : k ≤ 9223372036854775807) : Calls Try.prog 22 #[.slice a zs.length cap, .int .i64 (k : Int)] w (NatPost (val zs / 2 ^ k) w) := by
  have h := Shr_c a cap zs (k : Int) w hc ux hl ⟨by omega, by omega⟩
  rwa [show shD (k : Int) = k by unfold shD; omega] at h
theorem bit_top {n : Nat} (h : n ≠ 0) : bitB n ((bl n - 1 : Nat) : Int) = true := by
  have h1 := bl_le h
  have h2 := lt_bl n
  have h3 := bl_pos h
  refine decide_eq_true ⟨by omega, ?_⟩
  rw [Int.toNat_natCast]
  have e : 2 ^ bl n = 2 ^ (bl n - 1) * 2 := by rw [← Nat.pow_succ]; congr 1; omega
  have : n / 2 ^ (bl n - 1) = 1 := by
    rw [Nat.div_eq_iff (Nat.pow_pos (by decide))]
    omega
  rw [this]
theorem bit_off (n : Nat) : bitB n ((bl n : Nat) : Int) = false := by
  refine decide_eq_false fun h => ?_
  rw [Int.toNat_natCast, Nat.div_eq_of_lt (lt_bl n)] at h
  omega
theorem bit_neg {n : Nat} {i : Int} (h : i < 0) : bitB n i = false := decide_eq_false fun h2 => by omega
theorem bit_shr (n i : Nat) : bitB n (i : Int) = decide (n / 2 ^ i % 2 = 1) := by
  unfold bitB
  rw [Int.toNat_natCast]
  refine decide_eq_decide.2 ⟨fun h => h.2, fun h => ⟨by omega, h⟩⟩
theorem val_odd {zs : List Int} (u : U32 zs) (h : 0 < zs.length) : val zs % 2 = lb zs 0 % 2 := by
  have e := val_drop zs 0 h
  rw [List.drop_zero] at e
  rw [e, R]
  omega
end Go.Proofs.Ytnlmkikaaifcmaa
