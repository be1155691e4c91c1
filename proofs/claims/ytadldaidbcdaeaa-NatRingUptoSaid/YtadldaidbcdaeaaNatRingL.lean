/- signetlaw6.NatRing, its walk. -/
import Derived.Test.YtadldaidbcdaeaaLawSixB
set_option linter.unusedVariables false
set_option linter.unusedSimpArgs false
namespace Go.Proofs.Ytadldaidbcdaeaa
open Go.RowKit Go.Sg

set_option maxHeartbeats 8000000 in
set_option maxRecDepth 100000 in
theorem NatRing_c (a a' a'' : Option Addr) (cap cap' cap'' : Nat) (xs ys zs : List Int) (w : World) (sx : Sl .u32 w a cap xs) (sy : Sl .u32 w a' cap' ys) (sz : Sl .u32 w a'' cap'' zs) (ux : U32 xs) (uy : U32 ys) (uz : U32 zs) (hl : xs.length + ys.length + zs.length ≤ 1048576) :
    Calls Try.prog 8 #[.slice a xs.length cap, .slice a' ys.length cap', .slice a'' zs.length cap''] w (TruePost w) := by
  have mx : Lim 1048576 (val xs) := .of_list ux (by omega)
  have my : Lim 1048576 (val ys) := .of_list uy (by omega)
  have mz : Lim 1048576 (val zs) := .of_list uz (by omega)
  go_enter Try.func8, Try.ntmps8
  have hB := Below.refl w.heap.size w
  go_wp2_with fail
  refine (alive_c _).mono ?_; rintro e w1 ⟨rfl, hb⟩
  replace sx := sx.below hb
  replace sy := sy.below hb
  replace sz := sz.below hb
  replace hB := hB.trans (hb.mono hB.size)
  clear hb
  go_wp2_with fail
  refine (Add_c _ _ _ _ _ _ _ sx sy ux uy (by omega) (by omega)).mono ?_; rintro e w2 ⟨v1, rfl, hn, hb⟩
  replace sx := sx.below hb
  replace sy := sy.below hb
  replace sz := sz.below hb
  replace hB := hB.trans (hb.mono hB.size)
  clear hb
  obtain ⟨adS, cpS, zS, rfl, sS, nS, uS, hv⟩ := hn.sl
  have mS := Lim.eq (mx.add my) hv
  have lS := mS.len nS uS
  have vS := Lib.hid hv
  clear hv
  clear hn
  go_wp2_with fail
  refine (Mul_c _ _ _ _ _ _ _ sx sy ux uy (by omega) (by omega)).mono ?_; rintro e w3 ⟨v1, rfl, hn, hb⟩
  replace sx := sx.below hb
  replace sy := sy.below hb
  replace sz := sz.below hb
  replace sS := sS.below hb
  replace hB := hB.trans (hb.mono hB.size)
  clear hb
  obtain ⟨adP, cpP, zP, rfl, sP, nP, uP, hv⟩ := hn.sl
  have mP := Lim.eq (mx.mul my) hv
  have lP := mP.len nP uP
  have vP := Lib.hid hv
  clear hv
  clear hn
  go_wp2_with fail
  refine (Add_c _ _ _ _ _ _ _ sS sz uS uz (by omega) (by omega)).mono ?_; rintro e w4 ⟨v1, rfl, hn, hb⟩
  replace sx := sx.below hb
  replace sy := sy.below hb
  replace sz := sz.below hb
  replace sS := sS.below hb
  replace sP := sP.below hb
  replace hB := hB.trans (hb.mono hB.size)
  clear hb
  obtain ⟨adT, cpT, zT, rfl, sT, nT, uT, hv⟩ := hn.sl
  have mT := Lim.eq (mS.add mz) hv
  have lT := mT.len nT uT
  have vT := Lib.hid hv
  clear hv
  clear hn
  go_wp2_with fail
  refine (Mul_c _ _ _ _ _ _ _ sP sz uP uz (by omega) (by omega)).mono ?_; rintro e w5 ⟨v1, rfl, hn, hb⟩
  replace sx := sx.below hb
  replace sy := sy.below hb
  replace sz := sz.below hb
  replace sS := sS.below hb
  replace sP := sP.below hb
  replace sT := sT.below hb
  replace hB := hB.trans (hb.mono hB.size)
  clear hb
  obtain ⟨adQ, cpQ, zQ, rfl, sQ, nQ, uQ, hv⟩ := hn.sl
  have mQ := Lim.eq (mP.mul mz) hv
  have lQ := mQ.len nQ uQ
  have vQ := Lib.hid hv
  clear hv
  clear hn
  go_wp2_with fail
  refine (Add_c _ _ _ _ _ _ _ sy sx uy ux (by omega) (by omega)).mono ?_; rintro e w6 ⟨v1, rfl, hn, hb⟩
  replace sx := sx.below hb
  replace sy := sy.below hb
  replace sz := sz.below hb
  replace sS := sS.below hb
  replace sP := sP.below hb
  replace sT := sT.below hb
  replace sQ := sQ.below hb
  replace hB := hB.trans (hb.mono hB.size)
  clear hb
  obtain ⟨ad1, cp1, z1, rfl, s1, n1, u1, hv⟩ := hn.sl
  have m1 := Lim.eq (my.add mx) hv
  have l1 := m1.len n1 u1
  have v1 := Lib.hid hv
  clear hv
  clear hn
  obtain rfl : zS = z1 := nS.ext n1 uS u1 (Eq.symm (by rw [v1.out, vS.out, Nat.add_comm]))
  go_wp2_with fail
  refine (same_c _ _ _ _ _ _ sS s1 nS).mono ?_; rintro e w7 ⟨rfl, hb⟩
  replace sx := sx.below hb.b
  replace sy := sy.below hb.b
  replace sz := sz.below hb.b
  replace sS := sS.below hb.b
  replace sP := sP.below hb.b
  replace sT := sT.below hb.b
  replace sQ := sQ.below hb.b
  replace s1 := s1.below hb.b
  replace hB := hB.trans (hb.b.mono hB.size)
  clear hb
  clear s1
  go_wp2_with fail
  refine (Mul_c _ _ _ _ _ _ _ sy sx uy ux (by omega) (by omega)).mono ?_; rintro e w8 ⟨v1, rfl, hn, hb⟩
  replace sx := sx.below hb
  replace sy := sy.below hb
  replace sz := sz.below hb
  replace sS := sS.below hb
  replace sP := sP.below hb
  replace sT := sT.below hb
  replace sQ := sQ.below hb
  replace hB := hB.trans (hb.mono hB.size)
  clear hb
  obtain ⟨ad2, cp2, z2, rfl, s2, n2, u2, hv⟩ := hn.sl
  have m2 := Lim.eq (my.mul mx) hv
  have l2 := m2.len n2 u2
  have v2 := Lib.hid hv
  clear hv
  clear hn
  obtain rfl : zP = z2 := nP.ext n2 uP u2 (Eq.symm (by rw [v2.out, vP.out, Nat.mul_comm]))
  go_wp2_with fail
  refine (same_c _ _ _ _ _ _ sP s2 nP).mono ?_; rintro e w9 ⟨rfl, hb⟩
  replace sx := sx.below hb.b
  replace sy := sy.below hb.b
  replace sz := sz.below hb.b
  replace sS := sS.below hb.b
  replace sP := sP.below hb.b
  replace sT := sT.below hb.b
  replace sQ := sQ.below hb.b
  replace s2 := s2.below hb.b
  replace hB := hB.trans (hb.b.mono hB.size)
  clear hb
  clear s2
  go_wp2_with fail
  refine (Add_c _ _ _ _ _ _ _ sy sz uy uz (by omega) (by omega)).mono ?_; rintro e w10 ⟨v1, rfl, hn, hb⟩
  replace sx := sx.below hb
  replace sy := sy.below hb
  replace sz := sz.below hb
  replace sS := sS.below hb
  replace sP := sP.below hb
  replace sT := sT.below hb
  replace sQ := sQ.below hb
  replace hB := hB.trans (hb.mono hB.size)
  clear hb
  obtain ⟨ad3, cp3, z3, rfl, s3, n3, u3, hv⟩ := hn.sl
  have m3 := Lim.eq (my.add mz) hv
  have l3 := m3.len n3 u3
  have v3 := Lib.hid hv
  clear hv
  clear hn
  go_wp2_with fail
  refine (Add_c _ _ _ _ _ _ _ sx s3 ux u3 (by omega) (by omega)).mono ?_; rintro e w11 ⟨v1, rfl, hn, hb⟩
  replace sx := sx.below hb
  replace sy := sy.below hb
  replace sz := sz.below hb
  replace sS := sS.below hb
  replace sP := sP.below hb
  replace sT := sT.below hb
  replace sQ := sQ.below hb
  replace s3 := s3.below hb
  replace hB := hB.trans (hb.mono hB.size)
  clear hb
  obtain ⟨ad4, cp4, z4, rfl, s4, n4, u4, hv⟩ := hn.sl
  have m4 := Lim.eq (mx.add m3) hv
  have l4 := m4.len n4 u4
  have v4 := Lib.hid hv
  clear hv
  clear hn
  obtain rfl : zT = z4 := nT.ext n4 uT u4 (Eq.symm (by rw [v4.out, vT.out, v3.out, vS.out, Nat.add_assoc]))
  go_wp2_with fail
  refine (same_c _ _ _ _ _ _ sT s4 nT).mono ?_; rintro e w12 ⟨rfl, hb⟩
  replace sx := sx.below hb.b
  replace sy := sy.below hb.b
  replace sz := sz.below hb.b
  replace sS := sS.below hb.b
  replace sP := sP.below hb.b
  replace sT := sT.below hb.b
  replace sQ := sQ.below hb.b
  replace s3 := s3.below hb.b
  replace s4 := s4.below hb.b
  replace hB := hB.trans (hb.b.mono hB.size)
  clear hb
  clear s4
  clear s3
  go_wp2_with fail
  refine (Mul_c _ _ _ _ _ _ _ sy sz uy uz (by omega) (by omega)).mono ?_; rintro e w13 ⟨v1, rfl, hn, hb⟩
  replace sx := sx.below hb
  replace sy := sy.below hb
  replace sz := sz.below hb
  replace sS := sS.below hb
  replace sP := sP.below hb
  replace sT := sT.below hb
  replace sQ := sQ.below hb
  replace hB := hB.trans (hb.mono hB.size)
  clear hb
  obtain ⟨ad5, cp5, z5, rfl, s5, n5, u5, hv⟩ := hn.sl
  have m5 := Lim.eq (my.mul mz) hv
  have l5 := m5.len n5 u5
  have v5 := Lib.hid hv
  clear hv
  clear hn
  go_wp2_with fail
  refine (Mul_c _ _ _ _ _ _ _ sx s5 ux u5 (by omega) (by omega)).mono ?_; rintro e w14 ⟨v1, rfl, hn, hb⟩
  replace sx := sx.below hb
  replace sy := sy.below hb
  replace sz := sz.below hb
  replace sS := sS.below hb
  replace sP := sP.below hb
  replace sT := sT.below hb
  replace sQ := sQ.below hb
  replace s5 := s5.below hb
  replace hB := hB.trans (hb.mono hB.size)
  clear hb
  obtain ⟨ad6, cp6, z6, rfl, s6, n6, u6, hv⟩ := hn.sl
  have m6 := Lim.eq (mx.mul m5) hv
  have l6 := m6.len n6 u6
  have v6 := Lib.hid hv
  clear hv
  clear hn
  obtain rfl : zQ = z6 := nQ.ext n6 uQ u6 (Eq.symm (by rw [v6.out, vQ.out, v5.out, vP.out, Nat.mul_assoc]))
  go_wp2_with fail
  refine (same_c _ _ _ _ _ _ sQ s6 nQ).mono ?_; rintro e w15 ⟨rfl, hb⟩
  replace sx := sx.below hb.b
  replace sy := sy.below hb.b
  replace sz := sz.below hb.b
  replace sS := sS.below hb.b
  replace sP := sP.below hb.b
  replace sT := sT.below hb.b
  replace sQ := sQ.below hb.b
  replace s5 := s5.below hb.b
  replace s6 := s6.below hb.b
  replace hB := hB.trans (hb.b.mono hB.size)
  clear hb
  clear s6
  clear s5
  clear sQ
  clear sT
  go_wp2_with fail
  refine (Add_c _ _ _ _ _ _ _ sy sz uy uz (by omega) (by omega)).mono ?_; rintro e w16 ⟨v1, rfl, hn, hb⟩
  replace sx := sx.below hb
  replace sy := sy.below hb
  replace sz := sz.below hb
  replace sS := sS.below hb
  replace sP := sP.below hb
  replace hB := hB.trans (hb.mono hB.size)
  clear hb
  obtain ⟨ad7, cp7, z7, rfl, s7, n7, u7, hv⟩ := hn.sl
  have m7 := Lim.eq (my.add mz) hv
  have l7 := m7.len n7 u7
  have v7 := Lib.hid hv
  clear hv
  clear hn
  go_wp2_with fail
  refine (Mul_c _ _ _ _ _ _ _ sx s7 ux u7 (by omega) (by omega)).mono ?_; rintro e w17 ⟨v1, rfl, hn, hb⟩
  replace sx := sx.below hb
  replace sy := sy.below hb
  replace sz := sz.below hb
  replace sS := sS.below hb
  replace sP := sP.below hb
  replace s7 := s7.below hb
  replace hB := hB.trans (hb.mono hB.size)
  clear hb
  obtain ⟨adF, cpF, zF, rfl, sF, nF, uF, hv⟩ := hn.sl
  have mF := Lim.eq (mx.mul m7) hv
  have lF := mF.len nF uF
  have vF := Lib.hid hv
  clear hv
  clear hn
  clear s7
  go_wp2_with fail
  refine (Mul_c _ _ _ _ _ _ _ sx sz ux uz (by omega) (by omega)).mono ?_; rintro e w18 ⟨v1, rfl, hn, hb⟩
  replace sx := sx.below hb
  replace sy := sy.below hb
  replace sz := sz.below hb
  replace sS := sS.below hb
  replace sP := sP.below hb
  replace sF := sF.below hb
  replace hB := hB.trans (hb.mono hB.size)
  clear hb
  obtain ⟨ad8, cp8, z8, rfl, s8, n8, u8, hv⟩ := hn.sl
  have m8 := Lim.eq (mx.mul mz) hv
  have l8 := m8.len n8 u8
  have v8 := Lib.hid hv
  clear hv
  clear hn
  go_wp2_with fail
  refine (Add_c _ _ _ _ _ _ _ sP s8 uP u8 (by omega) (by omega)).mono ?_; rintro e w19 ⟨v1, rfl, hn, hb⟩
  replace sx := sx.below hb
  replace sy := sy.below hb
  replace sz := sz.below hb
  replace sS := sS.below hb
  replace sP := sP.below hb
  replace sF := sF.below hb
  replace s8 := s8.below hb
  replace hB := hB.trans (hb.mono hB.size)
  clear hb
  obtain ⟨adG, cpG, zG, rfl, sG, nG, uG, hv⟩ := hn.sl
  have mG := Lim.eq (mP.add m8) hv
  have lG := mG.len nG uG
  have vG := Lib.hid hv
  clear hv
  clear hn
  clear s8
  clear sP
  go_wp2_with fail
  refine (Add_c _ _ _ _ _ [] _ sx (.nil _ _ _ 0 (by omega)) ux (.nil (by omega)) (by omega) (by simp)).mono ?_; rintro e w20 ⟨v1, rfl, hn, hb⟩
  replace sx := sx.below hb
  replace sy := sy.below hb
  replace sz := sz.below hb
  replace sS := sS.below hb
  replace sF := sF.below hb
  replace sG := sG.below hb
  replace hB := hB.trans (hb.mono hB.size)
  clear hb
  obtain ⟨ad0, cp0, z0, rfl, s0, n0, u0, hv⟩ := hn.sl
  have m0 := Lim.eq (mx.add (Lim.nil (k := 1) (by omega))) hv
  have l0 := m0.len n0 u0
  have v0 := Lib.hid hv
  clear hv
  clear hn
  have hk : Blk (w20.alloc (.cells #[.int .u32 1] 52)) w20.heap.size .u32 52 [1] := cells_new .u32 w20 52 [1] #[.int .u32 1] rfl _ rfl
  have sa := hk.sl_full (by simp)
  have hb := (Below.refl w20.heap.size w20).alloc (Nat.le_refl _) (.cells #[.int .u32 1] 52)
  replace sx := sx.below hb
  replace sy := sy.below hb
  replace sz := sz.below hb
  replace sS := sS.below hb
  replace sF := sF.below hb
  replace sG := sG.below hb
  replace s0 := s0.below hb
  replace hB := hB.trans (hb.mono hB.size)
  clear hb hk
  have ua : U32 [1] := .of_mem (by omega) (by simp)
  have la : ([1] : List Int).length ≤ 1 := by simp
  have ma : Lim 1 (val [1]) := .of_list ua la
  have va : Hid (val [1] = 1) := Lib.hid (by decide)
  go_wp2_with fail
  refine (Mul_c _ _ _ _ _ _ _ sx sa ux ua (by omega) (by omega)).mono ?_; rintro e w21 ⟨v1, rfl, hn, hb⟩
  replace sx := sx.below hb
  replace sy := sy.below hb
  replace sz := sz.below hb
  replace sS := sS.below hb
  replace sF := sF.below hb
  replace sG := sG.below hb
  replace s0 := s0.below hb
  replace sa := sa.below hb
  replace hB := hB.trans (hb.mono hB.size)
  clear hb
  obtain ⟨adE, cpE, zE, rfl, sE, nE, uE, hv⟩ := hn.sl
  have mE := Lim.eq (mx.mul ma) hv
  have lE := mE.len nE uE
  have vE := Lib.hid hv
  clear hv
  clear hn
  clear sa
  have hk : Blk (w21.alloc (.cells #[.int .u32 0, .int .u32 0] 52)) w21.heap.size .u32 52 [0, 0] := cells_new .u32 w21 52 [0, 0] #[.int .u32 0, .int .u32 0] rfl _ rfl
  have sb := hk.sl_full (by simp)
  have hb := (Below.refl w21.heap.size w21).alloc (Nat.le_refl _) (.cells #[.int .u32 0, .int .u32 0] 52)
  replace sx := sx.below hb
  replace sy := sy.below hb
  replace sz := sz.below hb
  replace sS := sS.below hb
  replace sF := sF.below hb
  replace sG := sG.below hb
  replace s0 := s0.below hb
  replace sE := sE.below hb
  replace hB := hB.trans (hb.mono hB.size)
  clear hb hk
  have ub : U32 [0, 0] := .of_mem (by omega) (by simp)
  have lb : ([0, 0] : List Int).length ≤ 2 := by simp
  have mb : Lim 2 (val [0, 0]) := .of_list ub lb
  have vb : Hid (val [0, 0] = 0) := Lib.hid (by decide)
  go_wp2_with fail
  refine (Mul_c _ _ _ _ _ _ _ sx sb ux ub (by omega) (by omega)).mono ?_; rintro e w22 ⟨v1, rfl, hn, hb⟩
  replace sx := sx.below hb
  replace sy := sy.below hb
  replace sz := sz.below hb
  replace sS := sS.below hb
  replace sF := sF.below hb
  replace sG := sG.below hb
  replace s0 := s0.below hb
  replace sE := sE.below hb
  replace sb := sb.below hb
  replace hB := hB.trans (hb.mono hB.size)
  clear hb
  obtain ⟨adV, cpV, zV, rfl, sV, nV, uV, hv⟩ := hn.sl
  have mV := Lim.eq (mx.mul mb) hv
  have lV := mV.len nV uV
  have vV := Lib.hid hv
  clear hv
  clear hn
  clear sb
  obtain rfl := nV.nil_of_zero uV (by rw [vV.out, vb.out, Nat.mul_zero])
  go_wp2_with fail
  refine (Sub_c _ _ _ _ _ _ _ sS sy uS uy (by omega) (by omega)).mono ?_; rintro e w23 hp
  obtain ⟨adD, cpD, zD, rfl, sD, nD, uD, hv, hb⟩ := hp.sl
  replace sx := sx.below hb
  replace sy := sy.below hb
  replace sz := sz.below hb
  replace sS := sS.below hb
  replace sF := sF.below hb
  replace sG := sG.below hb
  replace s0 := s0.below hb
  replace sE := sE.below hb
  replace sV := sV.below hb
  replace hB := hB.trans (hb.mono hB.size)
  clear hb hp
  have mD := Lim.eq (mS.le (Nat.sub_le _ _)) hv
  have lD := mD.len nD uD
  have vD := Lib.hid hv
  clear hv
  rw [decide_eq_true (show val ys ≤ val zS by rw [vS.out]; omega)]
  obtain rfl : zF = zG := nF.ext nG uF uG (Eq.symm (by rw [vG.out, vF.out, v8.out, v7.out, vP.out, Nat.mul_add]))
  go_wp2_with fail
  refine (same_c _ _ _ _ _ _ sF sG nF).mono ?_; rintro e w24 ⟨rfl, hb⟩
  replace sx := sx.below hb.b
  replace sy := sy.below hb.b
  replace sz := sz.below hb.b
  replace sS := sS.below hb.b
  replace sF := sF.below hb.b
  replace sG := sG.below hb.b
  replace s0 := s0.below hb.b
  replace sE := sE.below hb.b
  replace sV := sV.below hb.b
  replace sD := sD.below hb.b
  replace hB := hB.trans (hb.b.mono hB.size)
  clear hb
  clear sG
  clear sF
  go_wp2_with fail
  refine (Cmp_c _ _ _ _ _ _ _ s0 sx u0 ux).mono ?_; rintro e w25 ⟨rfl, hb⟩
  replace sx := sx.below hb.b
  replace sy := sy.below hb.b
  replace sz := sz.below hb.b
  replace sS := sS.below hb.b
  replace s0 := s0.below hb.b
  replace sE := sE.below hb.b
  replace sV := sV.below hb.b
  replace sD := sD.below hb.b
  replace hB := hB.trans (hb.b.mono hB.size)
  clear hb
  rw [cmpI_eq (show val z0 = val xs by rw [v0.out, val_nil, Nat.add_zero])]
  obtain rfl : zE = z0 := nE.ext n0 uE u0 (Eq.symm (by rw [vE.out, v0.out, va.out, val_nil, Nat.add_zero, Nat.mul_one]))
  go_wp2_with fail
  refine (same_c _ _ _ _ _ _ sE s0 nE).mono ?_; rintro e w26 ⟨rfl, hb⟩
  replace sx := sx.below hb.b
  replace sy := sy.below hb.b
  replace sz := sz.below hb.b
  replace sS := sS.below hb.b
  replace s0 := s0.below hb.b
  replace sE := sE.below hb.b
  replace sV := sV.below hb.b
  replace sD := sD.below hb.b
  replace hB := hB.trans (hb.b.mono hB.size)
  clear hb
  obtain rfl : zD = zE := nD.ext n0 uD u0 (Eq.symm (by rw [vD.out, v0.out, vS.out, val_nil]; omega))
  go_wp2_with fail
  refine (same_c _ _ _ _ _ _ sD s0 nD).mono ?_; rintro e w27 ⟨rfl, hb⟩
  replace sx := sx.below hb.b
  replace sy := sy.below hb.b
  replace sz := sz.below hb.b
  replace sS := sS.below hb.b
  replace s0 := s0.below hb.b
  replace sE := sE.below hb.b
  replace sV := sV.below hb.b
  replace sD := sD.below hb.b
  replace hB := hB.trans (hb.b.mono hB.size)
  clear hb
  clear s0
  clear sD
  clear sE
  clear sS
  clear sV
  go_wp2_with fail
  refine (Sub_c _ _ _ _ _ _ _ sx sy ux uy (by omega) (by omega)).mono ?_; rintro e w28 hp
  obtain ⟨adH, cpH, zH, rfl, sH, nH, uH, hv, hb⟩ := hp.sl
  replace sx := sx.below hb
  replace sy := sy.below hb
  replace sz := sz.below hb
  replace hB := hB.trans (hb.mono hB.size)
  clear hb hp
  have mH := Lim.eq (mx.le (Nat.sub_le _ _)) hv
  have lH := mH.len nH uH
  have vH := Lib.hid hv
  clear hv
  by_cases hle : val ys ≤ val xs
  · rw [decide_eq_true hle]
    have HLE := Lib.hid hle
    clear hle
    go_wp2_with fail
    refine (Cmp_c _ _ _ _ _ _ _ sx sy ux uy).mono ?_; rintro e w29 ⟨rfl, hb⟩
    replace sx := sx.below hb.b
    replace sy := sy.below hb.b
    replace sz := sz.below hb.b
    replace sH := sH.below hb.b
    replace hB := hB.trans (hb.b.mono hB.size)
    clear hb
    have hge : 0 ≤ cmpI (val xs) (val ys) := by have := HLE.out; unfold cmpI; rw [if_neg (by omega)]; split <;> omega
    have hrg := cmpI_rng (val xs) (val ys)
    generalize cmpI (val xs) (val ys) = cc at *
    go_wp2_with fail
    refine (Add_c _ _ _ _ _ _ _ sH sy uH uy (by omega) (by omega)).mono ?_; rintro e w30 ⟨v1, rfl, hn, hb⟩
    replace sx := sx.below hb
    replace sy := sy.below hb
    replace sz := sz.below hb
    replace sH := sH.below hb
    replace hB := hB.trans (hb.mono hB.size)
    clear hb
    obtain ⟨adI, cpI, zI, rfl, sI, nI, uI, hv⟩ := hn.sl
    have mI := Lim.eq (mH.add my) hv
    have lI := mI.len nI uI
    have vI := Lib.hid hv
    clear hv
    clear hn
    go_wp2_with fail
    refine (Cmp_c _ _ _ _ _ _ _ sI sx uI ux).mono ?_; rintro e w31 ⟨rfl, hb⟩
    replace sx := sx.below hb.b
    replace sy := sy.below hb.b
    replace sz := sz.below hb.b
    replace sH := sH.below hb.b
    replace sI := sI.below hb.b
    replace hB := hB.trans (hb.b.mono hB.size)
    clear hb
    rw [cmpI_eq (show val zI = val xs by rw [vI.out, vH.out]; have := HLE.out; omega)]
    go_wp2_with fail
    go_ret
    exact ⟨rfl, hB⟩
  · rw [decide_eq_false hle]
    obtain rfl := nH.nil_of_zero uH (by rw [vH.out]; omega)
    have HLE := Lib.hid (show val xs < val ys by omega)
    clear hle
    go_wp2_with fail
    refine (Cmp_c _ _ _ _ _ _ _ sx sy ux uy).mono ?_; rintro e w32 ⟨rfl, hb⟩
    replace sx := sx.below hb.b
    replace sy := sy.below hb.b
    replace sz := sz.below hb.b
    replace sH := sH.below hb.b
    replace hB := hB.trans (hb.b.mono hB.size)
    clear hb
    rw [cmpI_lt HLE.out]
    go_wp2_with fail
    go_ret
    exact ⟨rfl, hB⟩
end Go.Proofs.Ytadldaidbcdaeaa
