/- signetlaw6.alive, same, by their contracts. -/
import Derived.Test.YtnlmkikaaifcmaaNatJ
import Derived.Test.YtnlmkikaaifcmaaNatReckonsL
import Derived.Test.YtnlmkikaaifcmaaNatSl
set_option linter.unusedVariables false
set_option linter.unusedSimpArgs false
namespace Go.Proofs.Ytnlmkikaaifcmaa
open Go.RowKit Go.Sg

def bigA : Nat := 18446744073709551615
theorem bigA_bits : bl (bigA * bigA) = 128 := bl_unique (k := 127) (by decide) (by decide)
theorem canon_R {zs : List Int} (c : Canon zs) (u : U32 zs) (h : val zs = R) : zs = [0, 1] := by
  refine c.ext (.of_last fun _ => by simp [nth]) u (.of_mem (by omega) (by simp)) ?_
  rw [h]; decide
theorem canon_len {zs : List Int} (c : Canon zs) (u : U32 zs) {k : Nat} (h : val zs < R ^ k) (hk : k ≤ 35184372088832) : zs.length ≤ 35184372088832 := Nat.le_trans (c.len_lt u h) hk

set_option maxHeartbeats 2000000 in
set_option maxRecDepth 20000 in
theorem alive_c (w : World) : Calls Try.prog 4 #[] w (TruePost w) := by
  have fu := FromUint_c bigA w (by decide)
  rw [show ((bigA : Nat) : Int) = 18446744073709551615 from rfl] at fu
  obtain ⟨N, hN⟩ : ∃ N, N = bigA := ⟨_, rfl⟩
  rw [← hN] at fu
  have HN := Lib.hid hN
  clear hN
  go_enter Try.func4, Try.ntmps4
  go_wp2_with fail
  refine fu.mono ?_; rintro e w1 ⟨v1, rfl, hn1, hb1⟩
  obtain ⟨a1, c1, z1, rfl, s1, can1, u1, hv1⟩ := hn1.res.sl
  have L1 := canon_len can1 u1 (k := 2) (by rw [hv1, HN.out]; decide) (by omega)
  have HV1 := Lib.hid hv1
  clear hn1 fu hv1
  go_wp2_with fail
  refine (Mul_c _ _ _ _ _ _ _ s1 s1 u1 u1 (by omega) (by omega)).mono ?_; rintro e w2 ⟨v2, rfl, hn2, hb2⟩
  obtain ⟨a2, c2, z2, rfl, s2, can2, u2, hv2⟩ := hn2.sl
  have L2 := canon_len can2 u2 (k := 4) (by rw [hv2, HV1.out, HN.out]; decide) (by omega)
  have HV2 := Lib.hid hv2
  replace s1 := s1.below hb2
  have hB2 := hb1.trans (hb2.mono hb1.size)
  clear hn2 hv2 hb1 hb2
  go_wp2_with fail
  refine (DivMod_c _ _ _ _ _ _ _ s2 s1 u2 u1 (by omega) (by omega)).mono ?_; intro e w3 hp
  obtain ⟨aq, cq, zq, ar, cr, zr, rfl, sq, canq, uq, sr, canr, ur, hvs, _, hb3⟩ := hp.sl
  obtain ⟨hq, hr⟩ := hvs (by rw [HV1.out, HN.out]; decide)
  have hz1 : val z1 ≠ 0 := by rw [HV1.out, HN.out]; decide
  rw [if_neg hz1]
  have HQ : Hid (val zq = bigA) := Lib.hid (by rw [hq, HV2.out, HV1.out, HN.out, Nat.mul_div_cancel _ (by decide)])
  have hr0 : zr = [] := canr.nil_of_zero ur (by rw [hr, HV2.out, HV1.out, Nat.mul_mod_left])
  subst hr0
  replace s2 := s2.below hb3
  have hB3 := hB2.trans (hb3.mono hB2.size)
  clear hq hr hvs hp hb3 hB2 s1 hz1
  go_wp2_with fail
  refine (Uint_c _ _ _ _ sq uq).mono ?_; rintro e w' ⟨rfl, rfl⟩
  rw [HQ.out, show uintV bigA = 18446744073709551615 by decide, show uintB bigA = true by decide]
  have hk : Blk (w3.alloc (.cells #[.int .u8 1, .int .u8 0, .int .u8 0, .int .u8 0, .int .u8 0] 5)) w3.heap.size .u8 5 [1, 0, 0, 0, 0] :=
    cells_new .u8 w3 5 [1, 0, 0, 0, 0] #[.int .u8 1, .int .u8 0, .int .u8 0, .int .u8 0, .int .u8 0] rfl _ rfl
  have fb := FromBytes_c _ _ [1, 0, 0, 0, 0] _ (hk.sl_full (by simp)) (.of_mem (by omega) (by simp)) (by simp)
  have hb4 := (Below.refl w3.heap.size w3).alloc (Nat.le_refl _) (.cells #[.int .u8 1, .int .u8 0, .int .u8 0, .int .u8 0, .int .u8 0] 5)
  replace s2 := s2.below hb4
  have hB4 := hB3.trans (hb4.mono hB3.size)
  clear hk hb4 hB3 sq
  go_wp2_with fail
  refine fb.mono ?_; rintro e w5 ⟨v5, rfl, hn5, hb5⟩
  obtain ⟨a5, c5, z5, rfl, s5, can5, u5, hv5⟩ := hn5.sl
  obtain rfl := canon_R can5 u5 (by rw [hv5]; decide)
  obtain ⟨b, off, rfl, hcc⟩ := s5.cells (by simp)
  have k0 := hcc 0 (by simp)
  have k1 := hcc 1 (by simp)
  rw [Nat.add_zero, show nth [0, 1] 0 = 0 from rfl] at k0
  rw [show nth [0, 1] 1 = 1 from rfl] at k1
  replace s2 := s2.below hb5
  have hB5 := hB4.trans (hb5.mono hB4.size)
  clear hn5 hv5 hcc hb5 hB4 fb
  go_wp2_with fail
  refine (Bits_c _ _ _ _ s2 u2 (by omega)).mono ?_; rintro e w' ⟨rfl, rfl⟩
  rw [HV2.out, HV1.out, HN.out, bigA_bits]
  go_wp2_with fail
  go_ret
  exact ⟨rfl, hB5⟩

end Go.Proofs.Ytnlmkikaaifcmaa
