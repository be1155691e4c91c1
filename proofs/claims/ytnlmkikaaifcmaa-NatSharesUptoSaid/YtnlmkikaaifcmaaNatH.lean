/- nat.below, nat.estimate, by their contracts. -/
import Derived.Test.YtnlmkikaaifcmaaNatG
set_option linter.unusedVariables false
set_option linter.unusedSimpArgs false
namespace Go.Proofs.Ytnlmkikaaifcmaa
open Go.RowKit Go.Sg

set_option maxHeartbeats 1000000 in
theorem below_c (a a' : Option Addr) (cap cap' : Nat) (U V : List Int) (w : World) (hu : Sl .u32 w a cap U) (hv : Sl .u32 w a' cap' V) (uu : U32 U) (uv : U32 V) (hl : U.length = V.length) :
    Calls Try.prog 41 #[.slice a U.length cap, .slice a' U.length cap'] w (BoolPost (decide (val U < val V)) w) := by
  have hxm := Nat.le_trans hu.le hu.max
  obtain ⟨n, hn⟩ : ∃ n, n = U.length := ⟨_, rfl⟩
  have HN := Lib.hid hn
  have HV := Lib.hid (show V.length = n by omega)
  rw [← hn] at hxm ⊢
  clear hn hl
  go_enter Try.func41, Try.ntmps41
  go_wp2_with fail
  go_loopw [5] (fun t wr => ∃ k : Nat, k ≤ n ∧ t = .int .i64 ((k : Int) - 1) ∧ U.drop k = V.drop k ∧ Dr w wr)
    (fun t _ => (intOf t + 1).toNat)
  case atStart => exact ⟨n, by omega, by go_num, by rw [List.drop_of_length_le (by have := HN.out; omega), List.drop_of_length_le (by have := HV.out; omega)], Dr.refl _⟩
  case round =>
    obtain ⟨k, hk, rfl, hd, nd, rfl⟩ := hrel
    have Hd := Lib.hid hd; clear hd
    by_cases h0 : 0 < k
    · obtain ⟨j, rfl⟩ : ∃ j, k = j + 1 := ⟨k - 1, by omega⟩
      obtain ⟨b, off, rfl, hcc⟩ := hu.cells (by have := HN.out; omega)
      obtain ⟨b', off', rfl, hcc'⟩ := hv.cells (by have := HV.out; omega)
      have hcell := hcc j (by have := HN.out; omega)
      have hcell' := hcc' j (by have := HV.out; omega)
      clear hcc hcc'
      have hj3 : (((j + 1 : Nat) : Int) - 1) = (j : Int) := by omega
      have hjn : j < n := by omega
      rw [hj3]
      have HJ := Lib.hid hj3
      clear hj3 h0
      by_cases he : nth U j = nth V j
      · have hes := drop_step j (by have := HN.out; have := HV.out; omega) (by have := HN.out; omega) Hd.out he
        have He := Lib.hid hes
        have g1 : (nth U j != nth V j) = false := by rw [he]; simp
        clear hes he
        go_wp2_with fail
        go_quiet (fail)
        go_wp2_with fail
        go_roundw
        case rel => exact ⟨j, by omega, by go_num, He.out, (by repeat (first | exact Dr.refl _ | apply Dr.drewN))⟩
        case measure => simp [intOf]
      · have g1 : (nth U j != nth V j) = true := by simpa using he
        have hres : decide (val U < val V) = decide (nth U j < nth V j) := by
          rcases Int.lt_trichotomy (nth U j) (nth V j) with h | h | h
          · rw [decide_eq_true h, decide_eq_true (top_lt uu j (by have := HN.out; have := HV.out; omega) (by have := HN.out; omega) Hd.out h)]
          · exact absurd h he
          · have := top_lt uv j (by have := HN.out; have := HV.out; omega) (by have := HV.out; omega) Hd.out.symm h
            rw [decide_eq_false (by omega), decide_eq_false (by omega)]
        have HR := Lib.hid hres
        clear he hres
        go_wp2_with fail
        go_quiet (fail)
        go_wp2_with fail
        go_quiet (fail)
        go_wp2_with fail
        go_ret
        exact ⟨by rw [HR.out]; rfl, (by repeat (first | exact Dr.refl _ | apply Dr.drewN))⟩
    · obtain rfl : k = 0 := by omega
      have e := Hd.out
      simp only [List.drop_zero] at e
      have HR : Hid (decide (val U < val V) = false) := Lib.hid (decide_eq_false (by rw [e]; omega))
      clear e h0 hk
      rw [show (((0 : Nat) : Int) - 1) = -1 from rfl]
      go_wp2_with fail
      go_ret
      exact ⟨by rw [HR.out]; rfl, nd, rfl⟩

/-- A digit of the quotient, or more, but a limb. -/
def EstPost (U V : List Int) (w : World) (e : Ending) (w' : World) : Prop := ∃ q : Nat, e = .returned (.int .u64 (q : Int)) ∧ val U / val V ≤ q ∧ q < R ∧ Dr w w'

def EstRel (v1 q T : Nat) (w : World) (dv rv : Value) (wr : World) : Prop := ∃ d r : Nat, dv = .int .u64 (d : Int) ∧ rv = .int .u64 (r : Int) ∧ d * v1 + r = T ∧ r < R ∧ q ≤ d ∧ Dr w wr

def estMu (v : Value) : Nat := (intOf v).toNat

set_option maxHeartbeats 2000000 in
set_option maxRecDepth 100000 in
theorem estimate_c (a a' : Option Addr) (cap cap' k : Nat) (U V : List Int) (w : World) (hu : Sl .u32 w a cap U) (hv : Sl .u32 w a' cap' V) (uu : U32 U) (uv : U32 V) (hU : U.length = k + 3) (hV : V.length = k + 2)
    (hv1 : lb V (k + 1) ≠ 0) (hlt : val U < val V * R) :
    Calls Try.prog 40 #[.slice a (k + 3) cap, .slice a' (k + 2) cap'] w (EstPost U V w) := by
  have hum := Nat.le_trans hu.le hu.max
  obtain ⟨b, off, rfl, hcc⟩ := hu.cells (by omega)
  obtain ⟨b', off', rfl, hcc'⟩ := hv.cells (by omega)
  have c1 := hcc (k + 2) (by omega)
  have c2 := hcc (k + 1) (by omega)
  have c3 := hcc k (by omega)
  have d1 := hcc' (k + 1) (by omega)
  have d2 := hcc' k (by omega)
  rw [← lb_cast uu] at c1 c2 c3
  rw [← lb_cast uv] at d1 d2
  have l1 := lb_lt uu (k + 2)
  have l2 := lb_lt uu (k + 1)
  have l3 := lb_lt uu k
  have m1 := lb_lt uv (k + 1)
  have m2 := lb_lt uv k
  have eV := val_two V k hV
  have eU := val_three U k hU
  have tV := val_take_lt uv k (by omega)
  have tU := val_take_lt uu k (by omega)
  generalize lb U (k + 2) = u1 at *
  generalize lb U (k + 1) = u2 at *
  generalize lb U k = u3 at *
  generalize lb V (k + 1) = v1 at *
  generalize lb V k = v2 at *
  obtain ⟨T, hT⟩ : ∃ T, T = u1 * R + u2 := ⟨_, rfl⟩
  obtain ⟨q, hq⟩ : ∃ q, q = val U / val V := ⟨_, rfl⟩
  rw [← hT] at eU
  have hqV : q * val V ≤ val U := by rw [hq]; exact Nat.div_mul_le_self _ _
  have hpair : q * (v1 * R + v2) ≤ T * R + u3 := est_pair hqV (P := R ^ k) (by rw [eV, Nat.mul_comm]; omega) (by
    rw [eU, Nat.add_mul, Nat.one_mul, Nat.mul_comm (R ^ k)]; omega)
  have hone := est_one hpair l3
  have hVpos : 0 < val V := by
    rw [eV]
    have : 1 ≤ R ^ k * (v1 * R + v2) := Nat.mul_pos (Rpow_pos k) (by have : 1 * R ≤ v1 * R := Nat.mul_le_mul_right R (by omega); unfold R at *; omega)
    omega
  have hqR : q < R := by rw [hq, Nat.div_lt_iff_lt_mul hVpos, Nat.mul_comm]; exact hlt
  have hu1v1 : u1 ≤ v1 := by
    rcases Nat.lt_or_ge v1 u1 with h | h
    · exfalso
      have h1 : (T * R + u3) * R ^ k ≤ val U := by rw [eU, Nat.mul_comm]; omega
      have h2 : val V * R ≤ R ^ k * (v1 * R + v2 + 1) * R := Nat.mul_le_mul_right R (by rw [eV, Nat.mul_add_one]; omega)
      have h3 : R ^ k * (v1 * R + v2 + 1) * R = ((v1 * R + v2 + 1) * R) * R ^ k := by rw [Nat.mul_assoc, Nat.mul_comm]
      have h4 : (v1 * R + v2 + 1) * R ≤ T * R + u3 := by
        have : v1 * R + v2 + 1 ≤ T := by
          rw [hT]
          have : (v1 + 1) * R ≤ u1 * R := Nat.mul_le_mul_right R h
          rw [Nat.add_mul] at this
          omega
        have := Nat.mul_le_mul_right R this
        omega
      have h5 := Nat.mul_le_mul_right (R ^ k) h4
      omega
    · exact h
  have hTle : T ≤ v1 * R + (R - 1) := by
    rw [hT]
    have := Nat.mul_le_mul_right R hu1v1
    omega
  have hR : R = 4294967296 := rfl
  have HPAIR := Lib.hid hpair
  have HQR := Lib.hid hqR
  have HTL := Lib.hid hTle
  have HQ := Lib.hid hq
  have v1p : 0 < v1 := by omega
  have e0 : Hid (bits .or .u64 ((u1 : Int) * 4294967296) (u2 : Int) = (T : Int)) := Lib.hid (by
    have := u64_or_nat (u1 * 4294967296) u2 (by omega) (by omega)
    rw [show ((u1 : Int) * 4294967296) = ((u1 * 4294967296 : Nat) : Int) by omega, this, nat_join 32 (u1 * 4294967296) u2 (by omega) (by omega), hT, hR])
  have hT64 : (T : Int) ≤ 18446744073709551615 := by
    have h := hTle
    rw [hR] at h
    omega
  obtain ⟨d0, hd0⟩ : ∃ d0, d0 = T / v1 := ⟨_, rfl⟩
  obtain ⟨r0, hr0⟩ : ∃ r0, r0 = T % v1 := ⟨_, rfl⟩
  have Q0 : Hid (IntKind.u64.wrap ((T : Int) / (v1 : Int)) = (d0 : Int)) := Lib.hid (by
    rw [hd0, IntKind.wrap_u64, ← Int.natCast_ediv]
    have : T / v1 ≤ T := Nat.div_le_self _ _
    apply Int.emod_eq_of_lt (Int.natCast_nonneg _)
    have h2 : ((T / v1 : Nat) : Int) ≤ (T : Int) := Int.ofNat_le.2 this
    omega)
  have R0 : Hid ((T : Int) % (v1 : Int) = (r0 : Int)) := Lib.hid (by rw [hr0]; exact (Int.natCast_emod ..).symm)
  have D0 : Hid ((T : Int) / (v1 : Int) = (d0 : Int)) := Lib.hid (by rw [hd0]; exact (Int.natCast_ediv ..).symm)
  have st : Hid (d0 * v1 + r0 = T ∧ r0 < R ∧ q ≤ d0) := Lib.hid
    ⟨by rw [hd0, hr0, Nat.mul_comm]; exact Nat.div_add_mod _ _, by rw [hr0]; exact Nat.lt_trans (Nat.mod_lt _ v1p) m1, by rw [hd0]; exact (Nat.le_div_iff_mul_le v1p).2 hone⟩
  have dT : (d0 : Int) ≤ 18446744073709551615 := by
    have : d0 ≤ T := by rw [hd0]; exact Nat.div_le_self _ _
    omega
  clear hd0 hr0
  have u14 : (u1 : Int) ≤ 4294967295 := by omega
  have u24 : (u2 : Int) ≤ 4294967295 := by omega
  have u34 : (u3 : Int) ≤ 4294967295 := by omega
  have v14 : (v1 : Int) ≤ 4294967295 := by omega
  have v24 : (v2 : Int) ≤ 4294967295 := by omega
  have v11 : (1 : Int) ≤ (v1 : Int) := by omega
  have hke : ((k + 3 : Nat) : Int) = (k : Int) + 3 := by omega
  have HR := Lib.hid hR
  clear hpair hqR hTle hq hone hqV eV eU tV tU hu1v1 hT hcc hcc' hlt hVpos hR
  go_enter Try.func40, Try.ntmps40
  go_wp2_with fail
  go_quiet (fail)
  go_wp2_with fail
  rw [e0.out]
  go_quiet (fail)
  go_wp2_with fail
  rw [Q0.out, R0.out]
  simp only [show k + 2 - 1 = k + 1 from rfl]
  go_loopw [7, 8] (fun dv rv wr => EstRel v1 q T w dv rv wr)
    (fun dv _ _ => estMu dv)
  case atStart => exact ⟨d0, r0, rfl, rfl, st.out.1, st.out.2.1, st.out.2.2, (by repeat (first | exact Dr.refl _ | apply Dr.drewN))⟩
  case round =>
    clear Q0 R0 D0 st dT
    obtain ⟨d, r, rfl, rfl, hdr, hrR, hqd, nd, rfl⟩ := hrel
    have hR := HR.out
    have HDR := Lib.hid hdr
    have r4 : (r : Int) ≤ 4294967295 := by omega
    have hdT : d ≤ T := by
      have : d * 1 ≤ d * v1 := Nat.mul_le_mul_left d v1p
      omega
    have d64 : (d : Int) ≤ 18446744073709551615 := by omega
    have step : ∀ (hd1 : 1 ≤ d) (hq1 : q ≤ d - 1), (d - 1) * v1 + (r + v1) = T := by
      intro h1 h2
      obtain ⟨d', rfl⟩ : ∃ d', d = d' + 1 := ⟨d - 1, by omega⟩
      rw [Nat.add_sub_cancel]
      have := HDR.out
      rw [Nat.add_mul] at this
      omega
    have hbig : R ≤ d - 1 → r + v1 < R := by
      intro h
      have h1 := step (by omega) (by have := HQR.out; omega)
      have h2 : R * v1 ≤ (d - 1) * v1 := Nat.mul_le_mul_right v1 h
      have h3 := HTL.out
      rw [Nat.mul_comm v1] at h3
      omega
    have STEP := Lib.hid step
    have HBIG := Lib.hid hbig
    clear hdr step hbig hdT
    by_cases hA : R ≤ d
    · have hA2 : (4294967296 : Int) ≤ (d : Int) := by omega
      have hgd : decide ((4294967296 : Int) ≤ (d : Int)) = true := decide_eq_true hA2
      have hqd1 : q ≤ d - 1 := by have := HQR.out; omega
      have hd1 : 1 ≤ d := by omega
      by_cases hbrk : R ≤ r + v1
      · have hb2 : (4294967296 : Int) ≤ (r : Int) + (v1 : Int) := by omega
        have hb3 : decide ((4294967296 : Int) ≤ (r : Int) + (v1 : Int)) = true := decide_eq_true hb2
        have hres : d - 1 < R := by
          rcases Nat.lt_or_ge (d - 1) R with h | h
          · exact h
          · have := HBIG.out h; omega
        have HRES := Lib.hid hres
        clear hres hbrk hR
        go_wp2_with fail
        go_quiet (fail)
        go_wp2_with fail
        go_ret
        exact ⟨d - 1, by refine congrArg Ending.returned (congrArg (Value.int .u64) ?_); show (d : Int) - 1 = _; omega, by rw [← HQ.out]; exact hqd1, HRES.out, (by repeat (first | exact Dr.refl _ | apply Dr.drewN))⟩
      · have hb2 : ¬ (4294967296 : Int) ≤ (r : Int) + (v1 : Int) := by omega
        have hb3 : decide ((4294967296 : Int) ≤ (r : Int) + (v1 : Int)) = false := decide_eq_false hb2
        have S := Lib.hid (STEP.out hd1 hqd1)
        have HB := Lib.hid hbrk
        clear hbrk hR
        go_wp2_with fail
        go_quiet (fail)
        go_wp2_with fail
        go_roundw
        case rel => exact ⟨d - 1, r + v1, by go_num, by go_num, S.out, Nat.not_le.1 HB.out, hqd1, (by repeat (first | exact Dr.refl _ | apply Dr.drewN))⟩
        case measure => simp [estMu, intOf]; omega
    · have hA2 : ¬ (4294967296 : Int) ≤ (d : Int) := by omega
      have hgd : decide ((4294967296 : Int) ≤ (d : Int)) = false := decide_eq_false hA2
      have hsq := mul_lt_sq (show d < R by omega) m2
      obtain ⟨p2, hp2⟩ : ∃ p2, p2 = d * v2 := ⟨_, rfl⟩
      have hp3 : ((d : Int) * (v2 : Int)) = (p2 : Int) := by rw [hp2, Int.natCast_mul]
      rw [← hp2] at hsq
      have HP2 := Lib.hid hp2
      have e1 : Hid (bits .or .u64 ((r : Int) * 4294967296) (u3 : Int) = ((r * R + u3 : Nat) : Int)) := Lib.hid (by
        have := u64_or_nat (r * 4294967296) u3 (by omega) (by omega)
        rw [show ((r : Int) * 4294967296) = ((r * 4294967296 : Nat) : Int) by omega, this, nat_join 32 (r * 4294967296) u3 (by omega) (by omega), hR])
      clear hp2
      by_cases hgt : r * R + u3 < p2
      · have hqd1 : q ≤ d - 1 := est_down HPAIR.out HDR.out hqd (by rw [← HP2.out]; exact hgt)
        have hd1 : 1 ≤ d := by
          rcases Nat.eq_zero_or_pos d with h | h
          · rw [HP2.out, h] at hgt; omega
          · exact h
        have hg2 : bits .or .u64 ((r : Int) * 4294967296) (u3 : Int) < (p2 : Int) := by rw [e1.out]; omega
        have hg3 : decide (bits .or .u64 ((r : Int) * 4294967296) (u3 : Int) < (p2 : Int)) = true := decide_eq_true hg2
        by_cases hbrk : R ≤ r + v1
        · have hb2 : (4294967296 : Int) ≤ (r : Int) + (v1 : Int) := by omega
          have hb3 : decide ((4294967296 : Int) ≤ (r : Int) + (v1 : Int)) = true := decide_eq_true hb2
          have HLT := Lib.hid (show d - 1 < R by omega)
          clear hbrk hgt hR
          go_wp2_with fail
          go_quiet (fail)
          go_wp2_with fail
          go_ret
          exact ⟨d - 1, by refine congrArg Ending.returned (congrArg (Value.int .u64) ?_); show (d : Int) - 1 = _; omega, by rw [← HQ.out]; exact hqd1, HLT.out, (by repeat (first | exact Dr.refl _ | apply Dr.drewN))⟩
        · have hb2 : ¬ (4294967296 : Int) ≤ (r : Int) + (v1 : Int) := by omega
          have hb3 : decide ((4294967296 : Int) ≤ (r : Int) + (v1 : Int)) = false := decide_eq_false hb2
          have S := Lib.hid (STEP.out hd1 hqd1)
          have HB := Lib.hid hbrk
          clear hgt hbrk hR
          go_wp2_with fail
          go_quiet (fail)
          go_wp2_with fail
          go_roundw
          case rel => exact ⟨d - 1, r + v1, by go_num, by go_num, S.out, Nat.not_le.1 HB.out, hqd1, (by repeat (first | exact Dr.refl _ | apply Dr.drewN))⟩
          case measure => simp [estMu, intOf]; omega
      · have hg2 : ¬ bits .or .u64 ((r : Int) * 4294967296) (u3 : Int) < (p2 : Int) := by rw [e1.out]; omega
        have hg3 : decide (bits .or .u64 ((r : Int) * 4294967296) (u3 : Int) < (p2 : Int)) = false := decide_eq_false hg2
        have HLT := Lib.hid (show d < R by omega)
        clear hgt hR
        go_wp2_with fail
        go_quiet (fail)
        go_wp2_with fail
        go_ret
        exact ⟨d, rfl, by rw [← HQ.out]; exact hqd, HLT.out, (by repeat (first | exact Dr.refl _ | apply Dr.drewN))⟩
end Go.Proofs.Ytnlmkikaaifcmaa
