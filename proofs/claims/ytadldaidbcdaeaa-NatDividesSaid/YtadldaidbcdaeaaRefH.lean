/- signetref6.DivMod, by its contract. -/
import Derived.Test.YtadldaidbcdaeaaRefG
import Derived.Test.YtadldaidbcdaeaaLawSixB
set_option linter.unusedVariables false
set_option linter.unusedSimpArgs false
namespace Go.Proofs.Ytadldaidbcdaeaa
open Go.RowKit Go.Sg

/-- Quotient and rest as slices that are read; or the complaint. -/
def DivSl (m n : Nat) (w : World) (e : Ending) (w' : World) : Prop :=
  ∃ aq cq zq ar cr zr, e = .returned (.tuple #[.slice aq zq.length cq, .slice ar zr.length cr, .int .i64 (if n = 0 then 60 else 0)]) ∧ Sl .u32 w' aq cq zq ∧ Canon zq ∧ U32 zq ∧ Sl .u32 w' ar cr zr ∧ Canon zr ∧ U32 zr ∧
      (0 < n → val zq = m / n ∧ val zr = m % n) ∧ (n = 0 → zq = [] ∧ zr = []) ∧ Below w.heap.size w w'

theorem bit_next (A i : Nat) : 2 * (A / 2 ^ (i + 1)) + bitN (bitB A (i : Int)) = A / 2 ^ i := by
  have e : A / 2 ^ (i + 1) = A / 2 ^ i / 2 := by rw [Nat.pow_succ, Nat.div_div_eq_div_mul]
  rw [e]
  unfold bitN bitB
  rw [Int.toNat_natCast]
  by_cases h : A / 2 ^ i % 2 = 1
  · rw [if_pos (decide_eq_true ⟨by omega, h⟩)]; omega
  · rw [if_neg (by simp; omega)]; omega
theorem div_bit {N D b : Nat} (hD : 0 < D) (hb : 2 * (N % D) + b < D) : (2 * N + b) / D = 2 * (N / D) ∧ (2 * N + b) % D = 2 * (N % D) + b := by
  have e : 2 * N + b = D * (2 * (N / D)) + (2 * (N % D) + b) := by
    have := Nat.div_add_mod N D
    rw [Nat.mul_left_comm]
    omega
  rw [e]
  exact ⟨by rw [Nat.mul_add_div hD, Nat.div_eq_of_lt hb, Nat.add_zero], by rw [Nat.mul_add_mod, Nat.mod_eq_of_lt hb]⟩
theorem div_bit1 {N D b : Nat} (hD : 0 < D) (hb : D ≤ 2 * (N % D) + b) (hb1 : b ≤ 1) : (2 * N + b) / D = 2 * (N / D) + 1 ∧ (2 * N + b) % D = 2 * (N % D) + b - D := by
  have hm := Nat.mod_lt N hD
  have e : 2 * N + b = D * (2 * (N / D) + 1) + (2 * (N % D) + b - D) := by
    have := Nat.div_add_mod N D
    rw [Nat.mul_add, Nat.mul_left_comm]
    omega
  have hb2 : 2 * (N % D) + b - D < D := by omega
  rw [e]
  exact ⟨by rw [Nat.mul_add_div hD, Nat.div_eq_of_lt hb2, Nat.add_zero], by rw [Nat.mul_add_mod, Nat.mod_eq_of_lt hb2]⟩

set_option maxHeartbeats 4000000 in
theorem rDivMod_c (a a' : Option Addr) (cap cap' : Nat) (xs ys : List Int) (w : World) (hx : Sl .u32 w a cap xs) (hy : Sl .u32 w a' cap' ys) (ux : U32 xs) (uy : U32 ys) (hl : xs.length ≤ 35184372087808) (hl' : ys.length ≤ 35184372087808) :
    Calls Try.prog 53 #[.slice a xs.length cap, .slice a' ys.length cap'] w (DivSl (val xs) (val ys) w) := by
  obtain ⟨A, hA⟩ : ∃ A, A = val xs := ⟨_, rfl⟩
  obtain ⟨D, hD⟩ : ∃ D, D = val ys := ⟨_, rfl⟩
  have LA : A < R ^ xs.length := by rw [hA]; exact val_lt ux
  have LD : D < R ^ ys.length := by rw [hD]; exact val_lt uy
  rw [← hA, ← hD]
  have HA := Lib.hid hA
  have HD := Lib.hid hD
  have bA0 : bl A ≤ 32 * xs.length := (bl_le_iff _ _).2 (by rw [← Rpow_two]; exact LA)
  have bA : bl A ≤ 2251799813000000 := by omega
  clear bA0
  have HLA := Lib.hid LA
  have HLD := Lib.hid LD
  clear LA LD hA hD
  go_enter Try.func53, Try.ntmps53
  go_wp2_with fail
  refine (rBits_c _ _ _ _ hy uy (by omega)).mono ?_; rintro e w1 ⟨rfl, hb1⟩
  rw [← HD.out]
  have hx1 := hx.below hb1
  have hy1 := hy.below hb1
  clear hx hy
  obtain ⟨bd, hbd⟩ : ∃ bd, bd = bl D := ⟨_, rfl⟩
  rw [← hbd]
  rcases Nat.eq_zero_or_pos D with hz | hp
  · subst hz
    obtain rfl : bd = 0 := hbd
    go_wp2_with fail
    go_ret3
    exact ⟨none, 0, [], none, 0, [], rfl, .nil _ _ _ _ (by omega), .nil, .nil (by omega), .nil _ _ _ _ (by omega), .nil, .nil (by omega), fun h => absurd h (by omega), fun _ => ⟨rfl, rfl⟩, hb1⟩
  · have hbp : (1 : Int) ≤ (bd : Int) := by have := bl_pos (Nat.pos_iff_ne_zero.1 hp); omega
    have hbz : ((bd : Int) == 0) = false := by simp; omega
    clear hbd
    go_wp2_with fail
    refine (rBits_c _ _ _ _ hx1 ux (by omega)).mono ?_; rintro e w2 ⟨rfl, hb2⟩
    rw [← HA.out]
    have hx2 := hx1.below hb2
    have hy2 := hy1.below hb2
    have hB2 := hb1.trans (hb2.mono hb1.size)
    clear hx1 hy1 hb1 hb2
    obtain ⟨n, hn⟩ : ∃ n, n = bl A := ⟨_, rfl⟩
    rw [← hn] at bA ⊢
    have hA0 : Hid (A / 2 ^ n = 0) := Lib.hid (Nat.div_eq_of_lt (by rw [hn]; exact lt_bl A))
    clear hn
    go_wp2_with fail
    go_loopw [7, 8, 9] (fun vq vr t wr => ∃ (j : Nat) (zq zr : List Int), j ≤ n ∧ t = .int .i64 ((j : Int) - 1) ∧ New w.heap.size .u32 52 wr vq zq ∧ New w.heap.size .u32 52 wr vr zr ∧ Canon zq ∧ Canon zr ∧ U32 zq ∧ U32 zr ∧
        val zq = A / 2 ^ j / D ∧ val zr = A / 2 ^ j % D ∧ Below w2.heap.size w2 wr)
      (fun _ _ t _ => (intOf t + 1).toNat)
    case atStart => exact ⟨n, [], [], by omega, by go_num, .nil _ _ _ _, .nil _ _ _ _, .nil, .nil, .nil (by omega), .nil (by omega), by rw [hA0.out, Nat.zero_div]; rfl, by rw [hA0.out, Nat.zero_mod]; rfl, .refl _ _⟩
    case round =>
      clear hA0
      obtain ⟨j, zq, zr, hj, rfl, nq, nr, cq, cr, uq, ur, hvq, hvr, hb⟩ := hrel
      have HQ := Lib.hid hvq
      have HR := Lib.hid hvr
      have lq : zq.length ≤ 35184372087808 := Nat.le_trans (cq.len_lt uq (n := xs.length) (by rw [hvq]; exact Nat.lt_of_le_of_lt (Nat.le_trans (Nat.div_le_self _ _) (Nat.div_le_self _ _)) HLA.out)) hl
      have lr : zr.length ≤ 35184372087808 := Nat.le_trans (cr.len_lt ur (n := ys.length) (by rw [hvr]; exact Nat.lt_trans (Nat.mod_lt _ hp) HLD.out)) hl'
      clear hvq hvr
      have hsz := hB2.size
      have hxr := hx2.below hb
      have hyr := hy2.below hb
      by_cases h0 : 0 < j
      · obtain ⟨i, rfl⟩ : ∃ i, j = i + 1 := ⟨j - 1, by omega⟩
        have hj3 : (((i + 1 : Nat) : Int) - 1) = (i : Int) := by omega
        rw [hj3]
        have HJ := Lib.hid hj3
        clear hj3 h0
        obtain ⟨bt, hbt⟩ : ∃ bt, bt = bitB (val xs) (i : Int) := ⟨_, rfl⟩
        have NX := Lib.hid (show 2 * (A / 2 ^ (i + 1)) + bitN bt = A / 2 ^ i by rw [hbt, ← HA.out]; exact bit_next A i)
        have bt1 : bitN bt ≤ 1 := by unfold bitN; split <;> omega
        go_wp2_with fail
        refine (rBit_c _ _ _ _ _ hxr ux (by omega)).mono ?_; rintro e w3 ⟨rfl, hd3⟩
        rw [← hbt]
        clear hbt
        obtain ⟨ar, cpr, rfl, sr⟩ := nr.sl
        replace sr := sr.below hd3.below
        replace nq := nq.keep hd3.below
        have hb3 := hb.trans (hd3.belowB)
        have hy3 := hy2.below hb3
        clear hxr hyr nr hb hd3
        go_wp2_with fail
        refine (doubled_c _ _ _ _ _ sr ur cr (by omega)).mono ?_; rintro e w4 ⟨v4, rfl, ⟨z4, n4, c4, u4, hv4⟩, hb4⟩
        rw [HR.out] at hv4
        replace nq := nq.keep hb4
        have hsz3 := hb3.size
        have hB4 := hb3.trans (hb4.mono hsz3)
        have hy4 := hy2.below hB4
        obtain ⟨a4, cp4, rfl, s4⟩ := n4.sl
        have HV4 := Lib.hid hv4
        have l4 : z4.length ≤ 35184372088000 := Nat.le_trans (c4.len_lt u4 (n := ys.length + 1) (by
          rw [hv4, Nat.pow_succ R]
          have h1 := Nat.mod_lt (A / 2 ^ (i + 1)) hp
          have h2 := HLD.out
          have h3 : R ^ ys.length * 2 ≤ R ^ ys.length * R := Nat.mul_le_mul_left _ (by decide)
          omega)) (by omega)
        clear sr hb4 hv4
        go_wp2_with fail
        refine (rCmp_c _ _ _ _ _ _ _ s4 hy4 u4 uy).mono ?_; rintro e w' ⟨rfl, rfl⟩
        rw [← HD.out]
        by_cases hlt : val z4 < D
        · rw [cmpI_lt hlt]
          obtain ⟨aq, cpq, rfl, sq⟩ := nq.sl
          have dv := Lib.hid (div_bit hp (show 2 * (A / 2 ^ (i + 1) % D) + bitN bt < D by rw [← HV4.out]; exact hlt))
          clear hlt
          go_wp2_with fail
          refine (doubled_c _ _ _ _ _ sq uq cq (by omega)).mono ?_; rintro e w5 ⟨v5, rfl, ⟨z5, n5, c5, u5, hv5⟩, hb5⟩
          have hB5 := hB4.trans (hb5.mono hB4.size)
          replace n4 := n4.keep hb5
          have hs4 := hB4.size
          have f1 : Hid (val z5 = A / 2 ^ i / D ∧ val z4 = A / 2 ^ i % D) := Lib.hid ⟨by rw [hv5, HQ.out, ← NX.out, dv.out.1]; rfl, by rw [HV4.out, ← NX.out, dv.out.2]⟩
          clear hv5 hb5 sq s4 hy4 hy3
          go_wp2_with fail
          go_roundw
          case rel => exact ⟨i, z5, z4, by omega, by go_num, n5.mono (by omega), n4.mono (by omega), c5, c4, u5, u4, f1.out.1, f1.out.2, hB5⟩
          case measure => simp [intOf]
        · have hge : 0 ≤ cmpI (val z4) D := by unfold cmpI; rw [if_neg hlt]; split <;> omega
          have hrg := cmpI_rng (val z4) D
          generalize cmpI (val z4) D = cc at *
          have hdf : decide (cc < 0) = false := decide_eq_false (by omega)
          have dv := Lib.hid (div_bit1 hp (show D ≤ 2 * (A / 2 ^ (i + 1) % D) + bitN bt by rw [← HV4.out]; omega) bt1)
          have hle := Lib.hid (show val ys ≤ val z4 by rw [← HD.out]; omega)
          clear hlt
          go_wp2_with fail
          refine (rSub_c _ _ _ _ _ _ _ s4 hy4 u4 uy (by omega) (by omega)).mono ?_; intro e w5 hs
          obtain ⟨v5, rfl, ⟨z5, n5, c5, u5, hv5⟩⟩ := hs.1 hle.out
          have hb5 := hs.2.2
          have hB5 := hB4.trans (hb5.mono hB4.size)
          have hs4 := hB4.size
          have hs5 := hB5.size
          replace nq := nq.keep hb5
          obtain ⟨aq, cpq, rfl, sq⟩ := nq.sl
          have HV5 := Lib.hid hv5
          clear hs hv5 hb5 s4 hy4 hy3 n4 hB4 hle
          go_wp2_with fail
          refine (doubled_c _ _ _ _ _ sq uq cq (by omega)).mono ?_; rintro e w6 ⟨v6, rfl, ⟨z6, n6, c6, u6, hv6⟩, hb6⟩
          have hB6 := hB5.trans (hb6.mono hB5.size)
          replace n5 := n5.keep hb6
          have f1 : Hid (val z6 = A / 2 ^ i / D ∧ val z5 = A / 2 ^ i % D) := Lib.hid ⟨by rw [hv6, HQ.out, ← NX.out, dv.out.1]; rfl, by rw [HV5.out, HV4.out, ← HD.out, ← NX.out, dv.out.2]⟩
          clear hv6 hb6 sq
          go_wp2_with fail
          go_roundw
          case rel => exact ⟨i, z6, z5, by omega, by go_num, n6.mono (by omega), n5.mono (by omega), c6, c5, u6, u5, f1.out.1, f1.out.2, hB6⟩
          case measure => simp [intOf]
      · obtain rfl : j = 0 := by omega
        rw [show (((0 : Nat) : Int) - 1) = -1 from rfl]
        obtain ⟨aq, cpq, rfl, sq⟩ := nq.sl
        obtain ⟨ar, cpr, rfl, sr⟩ := nr.sl
        have hBr := hB2.trans (hb.mono hB2.size)
        clear hxr hyr
        go_wp2_with fail
        refine (rProper_c _ _ _ _ sq (by omega)).mono ?_; rintro e w3 ⟨v3, rfl, n3, hb3⟩
        replace sr := sr.below hb3
        have hB3 := hBr.trans (hb3.mono hBr.size)
        go_wp2_with fail
        refine (rProper_c _ _ _ _ sr (by omega)).mono ?_; rintro e w4 ⟨v4, rfl, n4, hb4⟩
        have hB4 := hB3.trans (hb4.mono hB3.size)
        replace n3 := n3.keep hb4
        rw [norm_of_canon cq] at n3
        rw [norm_of_canon cr] at n4
        obtain ⟨a3, c3, rfl, s3⟩ := n3.sl
        obtain ⟨a4, c4, rfl, s4⟩ := n4.sl
        clear n3 n4 hb3 hb4 nq nr
        go_wp2_with fail
        go_ret3
        refine ⟨a3, c3, zq, a4, c4, zr, by rw [if_neg (by omega)]; rfl, s3, cq, uq, s4, cr, ur, fun _ => ?_, fun h => absurd h (by omega), hB4⟩
        have h1 := HQ.out
        have h2 := HR.out
        rw [Nat.pow_zero, Nat.div_one] at h1 h2
        exact ⟨h1, h2⟩
end Go.Proofs.Ytadldaidbcdaeaa
