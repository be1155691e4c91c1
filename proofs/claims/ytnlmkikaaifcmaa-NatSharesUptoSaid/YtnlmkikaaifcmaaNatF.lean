/- nat.FromUint, math/bits.Div32, nat.short, by their contracts. -/
import Derived.Test.YtnlmkikaaifcmaaNatC
import Derived.Test.YtnlmkikaaifcmaaNumC
import Derived.Test.YtnlmkikaaifcmaaBaseB
set_option linter.unusedVariables false
set_option linter.unusedSimpArgs false
namespace Go.Proofs.Ytnlmkikaaifcmaa
open Go.RowKit Go.Sg

/-- The number n, at the head of a new row of its own. -/
def NatRes1 (B : Nat) (w : World) (v : Value) (n : Nat) : Prop := ∃ g zs, v.ownBlock = some g ∧ New B .u32 25 w v zs ∧ Canon zs ∧ U32 zs ∧ val zs = n
theorem NatRes1.res {B : Nat} {w : World} {v : Value} {n : Nat} (h : NatRes1 B w v n) : NatRes B w v n := by
  obtain ⟨g, zs, _, h1, h2, h3, h4⟩ := h
  exact ⟨zs, h1, h2, h3, h4⟩
theorem NatRes1.of_blk {B g n : Nat} {w : World} {L : List Int} (h : Blk w g .u32 25 L) (hB : B ≤ g) (hu : U32 L) (hv : val L = n) (hl : L.length ≤ 9223372036854775807) : NatRes1 B w (.slice (some ⟨g, 0, none⟩) (norm L).length (norm L).length) n := by
  obtain ⟨zs, h1, h2, h3, h4⟩ := NatRes.of_blk h hB hu hv hl
  exact ⟨g, zs, rfl, h1, h2, h3, h4⟩

def FromUintPost (n : Nat) (w : World) (e : Ending) (w' : World) : Prop := ∃ v, e = .returned v ∧ NatRes1 w.heap.size w' v n ∧ Below w.heap.size w w'

set_option maxHeartbeats 1000000 in
theorem FromUint_c (u : Nat) (w : World) (hu : u < 18446744073709551616) :
    Calls Try.prog 13 #[.int .u64 (u : Int)] w (FromUintPost u w) := by
  have h0 : (0 : Int) ≤ (u : Int) := by omega
  have h1 : (u : Int) ≤ 18446744073709551615 := by omega
  have e0 : Hid ((u : Int) % 4294967296 = ((u % R : Nat) : Int)) := Lib.hid (by unfold R; omega)
  have e1 : Hid ((u : Int) / 4294967296 = ((u / R : Nat) : Int)) := Lib.hid (by unfold R; omega)
  have hk : Blk (w.alloc (.cells #[.int .u32 ((u : Int) % 4294967296), .int .u32 ((u : Int) / 4294967296)] 25)) w.heap.size .u32 25 [(u : Int) % 4294967296, (u : Int) / 4294967296] :=
    cells_new .u32 w 25 [(u : Int) % 4294967296, (u : Int) / 4294967296] #[.int .u32 ((u : Int) % 4294967296), .int .u32 ((u : Int) / 4294967296)] rfl _ rfl
  have hu32 : U32 [(u : Int) % 4294967296, (u : Int) / 4294967296] := .of_mem (by omega) (by simp; omega)
  have hv : val [(u : Int) % 4294967296, (u : Int) / 4294967296] = u := by
    simp only [val, R]; omega
  have hs := hk.sl_full (by simp)
  have hb := (Below.refl w.heap.size w).alloc (Nat.le_refl _) (.cells #[.int .u32 ((u : Int) % 4294967296), .int .u32 ((u : Int) / 4294967296)] 25)
  have pc := proper_c _ _ _ _ hs
  have HV := Lib.hid hv
  clear hv
  generalize hq : [(u : Int) % 4294967296, (u : Int) / 4294967296] = L at *
  have hL : L.length = 2 := by rw [← hq]; rfl
  rw [hL] at pc
  have HL := Lib.hid hL
  clear hq hL hs
  go_enter Try.func13, Try.ntmps13
  go_wp2_with fail
  refine pc.mono ?_; rintro e w' ⟨rfl, rfl⟩
  clear pc
  go_wp2_with fail
  go_ret
  exact ⟨_, rfl, .of_blk hk (Nat.le_refl _) hu32 HV.out (by rw [HL.out]; omega), hb⟩

/-- Quotient and rest of (h 2^32 + l) by y, h below y. -/
def Div32Post (h l y : Nat) (w : World) (e : Ending) (w' : World) : Prop :=
  e = .returned (.tuple #[.int .u32 (((R * h + l) / y : Nat) : Int), .int .u32 (((R * h + l) % y : Nat) : Int)]) ∧ Dr w w'

set_option maxHeartbeats 1000000 in
theorem Div32_c (h l y : Nat) (w : World) (hl : l < R) (hy : y < R) (hh : h < y) :
    Calls Try.prog 38 #[.int .u32 (h : Int), .int .u32 (l : Int), .int .u32 (y : Int)] w (Div32Post h l y w) := by
  have hR : R = 4294967296 := rfl
  have h4 : (h : Int) ≤ 4294967295 := by omega
  have l4 : (l : Int) ≤ 4294967295 := by omega
  have y4 : (y : Int) ≤ 4294967295 := by omega
  have y1 : (1 : Int) ≤ (y : Int) := by omega
  have y0 : ((y : Int) != 0) = true := by simp; omega
  have hlt : ¬ (y : Int) ≤ (h : Int) := by omega
  have hd : decide ((y : Int) ≤ (h : Int)) = false := decide_eq_false hlt
  have hq : (R * h + l) / y < R := by
    rw [Nat.div_lt_iff_lt_mul (by omega)]
    have : R * (h + 1) ≤ R * y := Nat.mul_le_mul_left R hh
    rw [Nat.mul_add] at this; omega
  have hr : (R * h + l) % y < R := Nat.lt_trans (Nat.mod_lt _ (by omega)) hy
  have e0 : Hid (bits .or .u64 ((h : Int) * 4294967296) (l : Int) = ((R * h + l : Nat) : Int)) := Lib.hid (by
    have := u64_or_nat (h * 4294967296) l (by omega) (by omega)
    rw [show ((h : Int) * 4294967296) = ((h * 4294967296 : Nat) : Int) by omega, this, nat_join 32 (h * 4294967296) l (by omega) (by omega)]
    rw [hR]; omega)
  have q0 : Hid (((R * h + l : Nat) : Int) / (y : Int) = (((R * h + l) / y : Nat) : Int)) := Lib.hid (Int.natCast_ediv ..).symm
  have r0 : Hid (((R * h + l : Nat) : Int) % (y : Int) = (((R * h + l) % y : Nat) : Int)) := Lib.hid (Int.natCast_emod ..).symm
  have q1 : Hid ((((R * h + l) / y : Nat) : Int) % 4294967296 = (((R * h + l) / y : Nat) : Int)) := Lib.hid (Int.emod_eq_of_lt (Int.natCast_nonneg _) (Int.ofNat_lt.2 hq))
  have r1 : Hid ((((R * h + l) % y : Nat) : Int) % 4294967296 = (((R * h + l) % y : Nat) : Int)) := Lib.hid (Int.emod_eq_of_lt (Int.natCast_nonneg _) (Int.ofNat_lt.2 hr))
  obtain ⟨T, hT⟩ : ∃ T, T = R * h + l := ⟨_, rfl⟩
  rw [← hT] at e0 q0 r0 q1 r1
  have hT64 : (T : Int) ≤ 18446744073709551615 := by
    have : R * (h + 1) ≤ R * R := Nat.mul_le_mul_left R (by omega)
    rw [hT]; rw [hR] at *; omega
  have HT := Lib.hid hT
  clear hR hq hr hT
  go_enter Try.func38, Try.ntmps38
  go_wp2_with fail
  rw [e0.out]
  go_quiet (fail)
  go_wp2_with fail
  go_ret2
  refine ⟨?_, (by repeat (first | exact Dr.refl _ | apply Dr.drewN))⟩
  have hq64 : IntKind.u64.wrap ((T : Int) / (y : Int)) = ((T / y : Nat) : Int) := by
    rw [IntKind.wrap_u64, q0.out]
    have : T / y ≤ T := Nat.div_le_self _ _
    apply Int.emod_eq_of_lt (Int.natCast_nonneg _)
    have h2 : ((T / y : Nat) : Int) ≤ (T : Int) := Int.ofNat_le.2 this
    omega
  refine congrArg Ending.returned (congrArg Value.tuple ?_)
  show #[Value.int .u32 (IntKind.u64.wrap ((T : Int) / (y : Int)) % 4294967296), Value.int .u32 ((T : Int) % (y : Int) % 4294967296)] = _
  rw [hq64, q1.out, r0.out, r1.out, HT.out]
end Go.Proofs.Ytnlmkikaaifcmaa
