import Derived.Test.YtlolkighnnedfaaDoorRows
import Derived.Test.YtlolkighnnedfaaDoorZ7
import Derived.Test.YtlolkighnnedfaaDoorZ1
import Derived.Deep.QuietTactic
import Derived.BigQuiet
import Derived.BigGuard
import Derived.BigRegion
import Derived.StillTailTactics
/- Words in a walk: each operation on words is the word's own. RotateLeft32, RotateLeft64 by their contracts. -/
set_option linter.unusedVariables false
set_option linter.unusedSimpArgs false
namespace Go.Sg
open Go.RowKit

theorem ofInt_wi {n : Nat} (v : BitVec n) : BitVec.ofInt n (wi v) = v := by
  apply BitVec.eq_of_toNat_eq
  rw [wi, BitVec.toNat_ofInt, ← Int.natCast_emod]
  simp
theorem wrap32_wi (x : Int) : IntKind.u32.wrap x = wi (BitVec.ofInt 32 x) := by
  rw [IntKind.wrap_u32', wi, BitVec.toNat_ofInt]; omega
theorem wrap64_wi (x : Int) : IntKind.u64.wrap x = wi (BitVec.ofInt 64 x) := by
  rw [IntKind.wrap_u64, wi, BitVec.toNat_ofInt]; omega
theorem wrap32_of (v : BitVec 32) : IntKind.u32.wrap ((v.toNat : Nat) : Int) = wi v := by
  have := v.isLt
  rw [IntKind.wrap_u32', wi]; omega
theorem wrap64_of (v : BitVec 64) : IntKind.u64.wrap ((v.toNat : Nat) : Int) = wi v := by
  have := v.isLt
  rw [IntKind.wrap_u64, wi]; omega
theorem xor32 (x y : BitVec 32) : bits .xor .u32 (wi x) (wi y) = wi (x ^^^ y) := by
  unfold bits; simp only [IntKind.bits, ofInt_wi]; exact wrap32_of _
theorem and32 (x y : BitVec 32) : bits .and .u32 (wi x) (wi y) = wi (x &&& y) := by
  unfold bits; simp only [IntKind.bits, ofInt_wi]; exact wrap32_of _
theorem or32 (x y : BitVec 32) : bits .or .u32 (wi x) (wi y) = wi (x ||| y) := by
  unfold bits; simp only [IntKind.bits, ofInt_wi]; exact wrap32_of _
theorem xor64 (x y : BitVec 64) : bits .xor .u64 (wi x) (wi y) = wi (x ^^^ y) := by
  unfold bits; simp only [IntKind.bits, ofInt_wi]; exact wrap64_of _
theorem and64 (x y : BitVec 64) : bits .and .u64 (wi x) (wi y) = wi (x &&& y) := by
  unfold bits; simp only [IntKind.bits, ofInt_wi]; exact wrap64_of _
theorem or64 (x y : BitVec 64) : bits .or .u64 (wi x) (wi y) = wi (x ||| y) := by
  unfold bits; simp only [IntKind.bits, ofInt_wi]; exact wrap64_of _
theorem add32m (x y : BitVec 32) : (wi x + wi y) % (4294967296 : Int) = wi (x + y) := by
  unfold wi; rw [BitVec.toNat_add]; omega
theorem add32 (x y : BitVec 32) : IntKind.u32.wrap (wi x + wi y) = wi (x + y) := by
  rw [IntKind.wrap_u32']; exact add32m x y
theorem add64m (x y : BitVec 64) : (wi x + wi y) % (18446744073709551616 : Int) = wi (x + y) := by
  unfold wi; rw [BitVec.toNat_add]; omega
theorem add64 (x y : BitVec 64) : IntKind.u64.wrap (wi x + wi y) = wi (x + y) := by
  rw [IntKind.wrap_u64]; exact add64m x y
theorem shr_wi {n : Nat} (x : BitVec n) (k : Nat) : wi x / ((2 ^ k : Nat) : Int) = wi (x >>> k) := by
  unfold wi; rw [BitVec.toNat_ushiftRight, Nat.shiftRight_eq_div_pow]; omega
theorem shl32 (x : BitVec 32) (k : Nat) : wi x * ((2 ^ k : Nat) : Int) % (4294967296 : Int) = wi (x <<< k) := by
  unfold wi; rw [BitVec.toNat_shiftLeft, Nat.shiftLeft_eq, ← Int.natCast_mul]; omega
theorem shl64 (x : BitVec 64) (k : Nat) : wi x * ((2 ^ k : Nat) : Int) % (18446744073709551616 : Int) = wi (x <<< k) := by
  unfold wi; rw [BitVec.toNat_shiftLeft, Nat.shiftLeft_eq, ← Int.natCast_mul]; omega
theorem or_low (i a b : Nat) (hb : b < 2 ^ i) : 2 ^ i * a ||| b = 2 ^ i * a + b := (Nat.two_pow_add_eq_or_of_lt hb a).symm
theorem byte_cast {a : Int} (h : 0 ≤ a ∧ a ≤ 255) : ∃ x : Nat, a = (x : Int) ∧ x < 256 := ⟨a.toNat, by omega, by omega⟩
/-- Four bytes make a word. -/
theorem word_or {a b c d : Int} (ha : 0 ≤ a ∧ a ≤ 255) (hb : 0 ≤ b ∧ b ≤ 255) (hc : 0 ≤ c ∧ c ≤ 255) (hd : 0 ≤ d ∧ d ≤ 255) :
    bits .or .u32 (bits .or .u32 (bits .or .u32 (IntKind.u32.wrap (IntKind.u32.wrap a * 16777216)) (IntKind.u32.wrap (IntKind.u32.wrap b * 65536))) (IntKind.u32.wrap (IntKind.u32.wrap c * 256))) (IntKind.u32.wrap d)
      = wi (BitVec.ofNat 32 (a.toNat * 16777216 + b.toNat * 65536 + c.toNat * 256 + d.toNat)) := by
  obtain ⟨x, rfl, hx⟩ := byte_cast ha
  obtain ⟨y, rfl, hy⟩ := byte_cast hb
  obtain ⟨z, rfl, hz⟩ := byte_cast hc
  obtain ⟨t, rfl, ht⟩ := byte_cast hd
  simp only [IntKind.wrap_u32', Int.toNat_natCast]
  rw [show (x : Int) % 4294967296 * 16777216 % 4294967296 = ((x * 16777216 : Nat) : Int) by omega, show (y : Int) % 4294967296 * 65536 % 4294967296 = ((y * 65536 : Nat) : Int) by omega,
    show (z : Int) % 4294967296 * 256 % 4294967296 = ((z * 256 : Nat) : Int) by omega, show (t : Int) % 4294967296 = ((t : Nat) : Int) by omega]
  have e1 := or_low 24 x (y * 65536) (by omega)
  have e2 := or_low 16 (x * 256 + y) (z * 256) (by omega)
  have e3 := or_low 8 (x * 65536 + y * 256 + z) t (by omega)
  rw [u32_or_nat _ _ (by omega) (by omega), show x * 16777216 ||| y * 65536 = x * 16777216 + y * 65536 by rw [Nat.mul_comm x]; exact e1,
    u32_or_nat _ _ (by omega) (by omega), show x * 16777216 + y * 65536 ||| z * 256 = x * 16777216 + y * 65536 + z * 256 by
      rw [show x * 16777216 + y * 65536 = 2 ^ 16 * (x * 256 + y) by omega]; exact e2,
    u32_or_nat _ _ (by omega) (by omega), show x * 16777216 + y * 65536 + z * 256 ||| t = x * 16777216 + y * 65536 + z * 256 + t by
      rw [show x * 16777216 + y * 65536 + z * 256 = 2 ^ 8 * (x * 65536 + y * 256 + z) by omega]; exact e3]
  rw [wi, BitVec.toNat_ofNat]
  omega
end Go.Sg
namespace Go.Proofs.YtlolkighnnedfaaDoor
open Go.RowKit Go.Sg

set_option maxHeartbeats 1000000 in
theorem Rot32_c (x : BitVec 32) (n k : Nat) (w : World) (h0 : 0 < n) (h1 : n < 32) (hk : n + k = 32) :
    Calls Tryd.prog 140 #[.int .u32 (wi x), .int .i64 (-(n : Int))] w fun e w' => e = .returned (.int .u32 (wi (turn x n k))) ∧ w = w' := by
  have e1 : bits .and .u64 (IntKind.u64.wrap (-(n : Int))) 31 = (k : Int) := by
    rw [IntKind.wrap_u64, show (-(n : Int)) % 18446744073709551616 = ((18446744073709551616 - n : Nat) : Int) by omega]
    refine (u64_and_nat _ 31 (by omega) (by omega)).trans ?_
    rw [Nat.and_two_pow_sub_one_eq_mod _ 5]
    omega
  have e2 : (32 : Int) - (k : Int) = (n : Int) := by omega
  have e3 : bits .or .u32 (wi x * 2 ^ k % 4294967296) (wi x / 2 ^ n) = wi (turn x n k) := by
    have a := shl32 x k
    have b := shr_wi x n
    rw [Int.natCast_pow] at a b
    rw [show (2 : Int) = ((2 : Nat) : Int) from rfl, a, b, or32, turn, BitVec.or_comm]
  clear hk
  go_enter Tryd.func140, Tryd.ntmps140
  go_wp2_with fail
  go_ret
  exact ⟨rfl, rfl⟩
set_option maxHeartbeats 1000000 in
theorem Rot64_c (x : BitVec 64) (n k : Nat) (w : World) (h0 : 0 < n) (h1 : n < 64) (hk : n + k = 64) :
    Calls Tryd.prog 141 #[.int .u64 (wi x), .int .i64 (-(n : Int))] w fun e w' => e = .returned (.int .u64 (wi (turn x n k))) ∧ w = w' := by
  have e1 : bits .and .u64 (IntKind.u64.wrap (-(n : Int))) 63 = (k : Int) := by
    rw [IntKind.wrap_u64, show (-(n : Int)) % 18446744073709551616 = ((18446744073709551616 - n : Nat) : Int) by omega]
    refine (u64_and_nat _ 63 (by omega) (by omega)).trans ?_
    rw [Nat.and_two_pow_sub_one_eq_mod _ 6]
    omega
  have e2 : (64 : Int) - (k : Int) = (n : Int) := by omega
  have e3 : bits .or .u64 (IntKind.u64.wrap (wi x * 2 ^ k)) (wi x / 2 ^ n) = wi (turn x n k) := by
    have a := shl64 x k
    have b := shr_wi x n
    rw [Int.natCast_pow] at a b
    rw [IntKind.wrap_u64, show (2 : Int) = ((2 : Nat) : Int) from rfl, a, b, or64, turn, BitVec.or_comm]
  clear hk
  go_enter Tryd.func141, Tryd.ntmps141
  go_wp2_with fail
  go_ret
  exact ⟨rfl, rfl⟩
theorem still_of {P : Program} {f : FuncId} {args : Array Value} {w : World} {v : Value} (h : Calls P f args w fun e w' => e = .returned v ∧ w = w') : Calls P f args w fun e w'' => e = .returned v ∧ w'' = w :=
  h.mono fun _ _ ⟨a, b⟩ => ⟨a, b.symm⟩
theorem quiet_of' {P : Program} {f : FuncId} {args : Array Value} {w : World} {n : Nat} {v : Value} (h : Calls P f args (w.drewN n) fun e w' => e = .returned v ∧ w.drewN n = w') : Calls P f args (w.drewN n) fun e w'' => e = .returned v ∧ ∃ m, w'' = w.drewN m :=
  h.mono fun _ _ ⟨a, b⟩ => ⟨a, n, b.symm⟩
theorem Rot32_l (x : BitVec 32) (a : Int) (n k : Nat) (w : World) (ha : a = -(n : Int)) (h0 : 0 < n) (h1 : n < 32) (hk : n + k = 32) :
    Calls Tryd.prog 140 #[.int .u32 (wi x), .int .i64 a] w fun e w' => e = .returned (.int .u32 (wi (turn x n k))) ∧ w = w' := by
  subst ha; exact Rot32_c x n k w h0 h1 hk
theorem Rot64_l (x : BitVec 64) (a : Int) (n k : Nat) (w : World) (ha : a = -(n : Int)) (h0 : 0 < n) (h1 : n < 64) (hk : n + k = 64) :
    Calls Tryd.prog 141 #[.int .u64 (wi x), .int .i64 a] w fun e w' => e = .returned (.int .u64 (wi (turn x n k))) ∧ w = w' := by
  subst ha; exact Rot64_c x n k w h0 h1 hk
theorem Rot32_any (x : BitVec 32) (a : Int) (w : World) (h0 : -31 ≤ a) (h1 : a ≤ -1) :
    Calls Tryd.prog 140 #[.int .u32 (wi x), .int .i64 a] w fun e w' => e = .returned (.int .u32 (wi (turn x a.natAbs (32 - a.natAbs)))) ∧ w = w' := Rot32_l x a _ _ w (by omega) (by omega) (by omega) (by omega)
theorem Rot64_any (x : BitVec 64) (a : Int) (w : World) (h0 : -63 ≤ a) (h1 : a ≤ -1) :
    Calls Tryd.prog 141 #[.int .u64 (wi x), .int .i64 a] w fun e w' => e = .returned (.int .u64 (wi (turn x a.natAbs (64 - a.natAbs)))) ∧ w = w' := Rot64_l x a _ _ w (by omega) (by omega) (by omega) (by omega)
end Go.Proofs.YtlolkighnnedfaaDoor
