/- signetlaw6.alive, same, by their contracts. -/
import Derived.Test.YtadldaidbcdaeaaNatJ
import Derived.Test.YtadldaidbcdaeaaNatReckonsL
set_option linter.unusedVariables false
set_option linter.unusedSimpArgs false
namespace Go.Proofs.Ytadldaidbcdaeaa
open Go.RowKit Go.Sg

/-- What DivMod hands back, as slices that are read. -/
theorem DivPost.sl {m n : Nat} {w : World} {e : Ending} {w' : World} (h : DivPost m n w e w') :
    ∃ aq cq zq ar cr zr, e = .returned (.tuple #[.slice aq zq.length cq, .slice ar zr.length cr, .int .i64 (if n = 0 then 60 else 0)]) ∧ Sl .u32 w' aq cq zq ∧ Canon zq ∧ U32 zq ∧ Sl .u32 w' ar cr zr ∧ Canon zr ∧ U32 zr ∧
      (0 < n → val zq = m / n ∧ val zr = m % n) ∧ (n = 0 → zq = [] ∧ zr = []) ∧ Below w.heap.size w w' := by
  rcases Nat.eq_zero_or_pos n with h0 | h0
  · refine ⟨none, 0, [], none, 0, [], ?_, .nil _ _ _ _ (by omega), .nil, .nil (by omega), .nil _ _ _ _ (by omega), .nil, .nil (by omega), fun h => absurd h (by omega), fun _ => ⟨rfl, rfl⟩, h.2.2⟩
    rw [h.1 h0, if_pos h0]; rfl
  · obtain ⟨vq, vr, rfl, hq, hr, _⟩ := h.2.1 h0
    obtain ⟨aq, cq, zq, rfl, sq, canq, uq, vq⟩ := hq.sl
    obtain ⟨ar, cr, zr, rfl, sr, canr, ur, vr⟩ := hr.sl
    exact ⟨aq, cq, zq, ar, cr, zr, by rw [if_neg (by omega)], sq, canq, uq, sr, canr, ur, fun _ => ⟨vq, vr⟩, fun h => absurd h (by omega), h.2.2⟩

def bigA : Nat := 18446744073709551615
theorem bigA_bits : bl (bigA * bigA) = 128 := bl_unique (k := 127) (by decide) (by decide)
theorem canon_R {zs : List Int} (c : Canon zs) (u : U32 zs) (h : val zs = R) : zs = [0, 1] := by
  refine c.ext (.of_last fun _ => by simp [nth]) u (.of_mem (by omega) (by simp)) ?_
  rw [h]; decide
theorem canon_len {zs : List Int} (c : Canon zs) (u : U32 zs) {k : Nat} (h : val zs < R ^ k) (hk : k ≤ 35184372088832) : zs.length ≤ 35184372088832 := Nat.le_trans (c.len_lt u h) hk

set_option maxHeartbeats 2000000 in
set_option maxRecDepth 20000 in
theorem alive_c (w : World) : Calls Try.prog 54 #[] w (TruePost w) := by
  have fu := FromUint_c bigA w (by decide)
  rw [show ((bigA : Nat) : Int) = 18446744073709551615 from rfl] at fu
  obtain ⟨N, hN⟩ : ∃ N, N = bigA := ⟨_, rfl⟩
  rw [← hN] at fu
  have HN := Lib.hid hN
  clear hN
  go_enter Try.func54, Try.ntmps54
  go_wp2_with fail
  refine fu.mono ?_; rintro e w1 ⟨v1, rfl, hn1, hb1⟩
  obtain ⟨a1, c1, z1, rfl, s1, can1, u1, hv1⟩ := hn1.res.sl
  have L1 := canon_len can1 u1 (k := 2) (by rw [hv1, HN.out]; decide) (by omega)
  have HV1 := Lib.hid hv1
  clear hn1 fu hv1
  go_wp2_with fail
  refine (Mul_c _ _ _ _ _ _ _ s1 s1 u1 u1 (by omega) (by omega)).mono ?_; rintro e w2 ⟨v2, rfl, hn2, hb2⟩
  obtain ⟨a2, c2, z2, rfl, s2, can2, u2, hv2⟩ := hn2.sl
  have L2 := canon_len can2 u2 (k := 4) (by rw [hv2, HV1.out, HN.out]; decide) (by omega)
  have HV2 := Lib.hid hv2
  replace s1 := s1.below hb2
  have hB2 := hb1.trans (hb2.mono hb1.size)
  clear hn2 hv2 hb1 hb2
  go_wp2_with fail
  refine (DivMod_c _ _ _ _ _ _ _ s2 s1 u2 u1 (by omega) (by omega)).mono ?_; intro e w3 hp
  obtain ⟨aq, cq, zq, ar, cr, zr, rfl, sq, canq, uq, sr, canr, ur, hvs, _, hb3⟩ := hp.sl
  obtain ⟨hq, hr⟩ := hvs (by rw [HV1.out, HN.out]; decide)
  have hz1 : val z1 ≠ 0 := by rw [HV1.out, HN.out]; decide
  rw [if_neg hz1]
  have HQ : Hid (val zq = bigA) := Lib.hid (by rw [hq, HV2.out, HV1.out, HN.out, Nat.mul_div_cancel _ (by decide)])
  have hr0 : zr = [] := canr.nil_of_zero ur (by rw [hr, HV2.out, HV1.out, Nat.mul_mod_left])
  subst hr0
  replace s2 := s2.below hb3
  have hB3 := hB2.trans (hb3.mono hB2.size)
  clear hq hr hvs hp hb3 hB2 s1 hz1
  go_wp2_with fail
  refine (Uint_c _ _ _ _ sq uq).mono ?_; rintro e w' ⟨rfl, rfl⟩
  rw [HQ.out, show uintV bigA = 18446744073709551615 by decide, show uintB bigA = true by decide]
  have hk : Blk (w3.alloc (.cells #[.int .u8 1, .int .u8 0, .int .u8 0, .int .u8 0, .int .u8 0] 5)) w3.heap.size .u8 5 [1, 0, 0, 0, 0] :=
    cells_new .u8 w3 5 [1, 0, 0, 0, 0] #[.int .u8 1, .int .u8 0, .int .u8 0, .int .u8 0, .int .u8 0] rfl _ rfl
  have fb := FromBytes_c _ _ [1, 0, 0, 0, 0] _ (hk.sl_full (by simp)) (.of_mem (by omega) (by simp)) (by simp)
  have hb4 := (Below.refl w3.heap.size w3).alloc (Nat.le_refl _) (.cells #[.int .u8 1, .int .u8 0, .int .u8 0, .int .u8 0, .int .u8 0] 5)
  replace s2 := s2.below hb4
  have hB4 := hB3.trans (hb4.mono hB3.size)
  clear hk hb4 hB3 sq
  go_wp2_with fail
  refine fb.mono ?_; rintro e w5 ⟨v5, rfl, hn5, hb5⟩
  obtain ⟨a5, c5, z5, rfl, s5, can5, u5, hv5⟩ := hn5.sl
  obtain rfl := canon_R can5 u5 (by rw [hv5]; decide)
  obtain ⟨b, off, rfl, hcc⟩ := s5.cells (by simp)
  have k0 := hcc 0 (by simp)
  have k1 := hcc 1 (by simp)
  rw [Nat.add_zero, show nth [0, 1] 0 = 0 from rfl] at k0
  rw [show nth [0, 1] 1 = 1 from rfl] at k1
  replace s2 := s2.below hb5
  have hB5 := hB4.trans (hb5.mono hB4.size)
  clear hn5 hv5 hcc hb5 hB4 fb
  go_wp2_with fail
  refine (Bits_c _ _ _ _ s2 u2 (by omega)).mono ?_; rintro e w' ⟨rfl, rfl⟩
  rw [HV2.out, HV1.out, HN.out, bigA_bits]
  go_wp2_with fail
  go_ret
  exact ⟨rfl, hB5⟩

/-- 'same' of one number at two places. -/
theorem same_c (a a' : Option Addr) (cap cap' : Nat) (xs : List Int) (w : World) (hx : Sl .u32 w a cap xs) (hy : Sl .u32 w a' cap' xs) (cx : Canon xs) :
    Calls Try.prog 55 #[.slice a xs.length cap, .slice a' xs.length cap'] w (BoolPost true w) := by
  have hxm := Nat.le_trans hx.le hx.max
  obtain ⟨n, hn⟩ : ∃ n, n = xs.length := ⟨_, rfl⟩
  have HN := Lib.hid hn
  rw [← hn] at hxm ⊢
  clear hn
  have hne : ((n : Int) != n) = false := by simp
  have loop : ∀ i, i < n → ∃ b off b' off', a = some ⟨b, off, none⟩ ∧ a' = some ⟨b', off', none⟩ ∧ w.cell? ⟨b, off + i, none⟩ = some (.int .u32 (nth xs i)) ∧ w.cell? ⟨b', off' + i, none⟩ = some (.int .u32 (nth xs i)) := by
    intro i hi
    obtain ⟨b, off, rfl, hcc⟩ := hx.cells (by have := HN.out; omega)
    obtain ⟨b', off', rfl, hcc'⟩ := hy.cells (by have := HN.out; omega)
    exact ⟨b, off, b', off', rfl, rfl, hcc i (by have := HN.out; omega), hcc' i (by have := HN.out; omega)⟩
  have LOOP := Lib.hid loop
  clear loop
  go_enter Try.func55, Try.ntmps55
  rcases Nat.eq_zero_or_pos n with h0 | hp
  · subst h0
    go_wp2_with fail
    go_loopw [5] (fun t wr => t = .int .i64 0 ∧ Dr w wr) (fun t _ => 0)
    case atStart => exact ⟨rfl, .refl _⟩
    case round =>
      obtain ⟨rfl, nd, rfl⟩ := hrel
      go_wp2_with fail
      go_ret
      exact ⟨rfl, (by repeat (first | exact Dr.refl _ | apply Dr.drewN))⟩
  · obtain ⟨b, off, b', off', ea, ea', hc, _⟩ := LOOP.out (n - 1) (by omega)
    have hl : nth xs (n - 1) ≠ 0 := by rw [HN.out]; exact cx.last (by rw [← HN.out]; exact hp)
    have g0 : (nth xs (n - 1) == 0) = false := by simpa using hl
    obtain ⟨m, rfl⟩ : ∃ m, n = m + 1 := ⟨n - 1, by omega⟩
    rw [Nat.add_sub_cancel] at hc hl g0
    have hm0 : (0 : Int) ≤ (m : Int) := by omega
    have hpi : ((m + 1 : Nat) : Int) - 1 = (m : Int) := by omega
    have hd : decide ((0 : Int) < ((m + 1 : Nat) : Int)) = true := decide_eq_true (by omega)
    subst ea ea'
    go_wp2_with fail
    clear hc hl g0 hpi hd hm0 hne
    go_loopw [5] (fun t wr => ∃ i : Nat, i ≤ m + 1 ∧ t = .int .i64 (i : Int) ∧ Dr w wr) (fun t _ => m + 1 - (intOf t).toNat)
    case atStart => exact ⟨0, by omega, rfl, .refl _⟩
    case round =>
      obtain ⟨i, hi, rfl, nd, rfl⟩ := hrel
      by_cases hlt : i < m + 1
      · obtain ⟨b1, o1, b2, o2, h1, h2, c1, c2⟩ := LOOP.out i hlt
        cases h1
        cases h2
        have g1 : (nth xs i != nth xs i) = false := by simp
        go_wp2_with fail
        go_quiet (fail)
        go_wp2_with fail
        go_roundw
        case rel => exact ⟨i + 1, by omega, by go_num, (by repeat (first | exact Dr.refl _ | apply Dr.drewN))⟩
        case measure => simp [intOf]; omega
      · obtain rfl : i = m + 1 := by omega
        go_wp2_with fail
        go_ret
        exact ⟨rfl, (by repeat (first | exact Dr.refl _ | apply Dr.drewN))⟩
end Go.Proofs.Ytadldaidbcdaeaa
