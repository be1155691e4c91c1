/- signetlaw6.NatOrder, its walk. -/
import Derived.Test.YtadldaidbcdaeaaLawSixB
set_option linter.unusedVariables false
set_option linter.unusedSimpArgs false
namespace Go.Proofs.Ytadldaidbcdaeaa
open Go.RowKit Go.Sg



set_option maxHeartbeats 8000000 in
set_option maxRecDepth 100000 in
theorem NatOrder_cllp (a a' a'' : Option Addr) (cap cap' cap'' : Nat) (xs ys zs : List Int) (w : World) (sx : Sl .u32 w a cap xs) (sy : Sl .u32 w a' cap' ys) (sz : Sl .u32 w a'' cap'' zs) (ux : U32 xs) (uy : U32 ys) (uz : U32 zs) (hl : xs.length + ys.length + zs.length ≤ 1048576)
    (hab : Hid (val xs < val ys)) (hbc : Hid (val ys < val zs)) (hc : Hid (0 < val zs)) :
    Calls Try.prog 9 #[.slice a xs.length cap, .slice a' ys.length cap', .slice a'' zs.length cap''] w (TruePost w) := by
  have mx : Lim 1048576 (val xs) := .of_list ux (by omega)
  have my : Lim 1048576 (val ys) := .of_list uy (by omega)
  have mz : Lim 1048576 (val zs) := .of_list uz (by omega)
  go_enter Try.func9, Try.ntmps9
  have hB := Below.refl w.heap.size w
  go_wp2_with fail
  refine (alive_c _).mono ?_; rintro e w1 ⟨rfl, hb⟩
  replace sx := sx.below hb
  replace sy := sy.below hb
  replace sz := sz.below hb
  replace hB := hB.trans (hb.mono hB.size)
  clear hb
  go_wp2_with fail
  refine (Cmp_c _ _ _ _ _ _ _ sx sy ux uy).mono ?_; rintro e w2 ⟨rfl, hb⟩
  replace sx := sx.below hb.b
  replace sy := sy.below hb.b
  replace sz := sz.below hb.b
  replace hB := hB.trans (hb.b.mono hB.size)
  clear hb
  rw [cmpI_lt (show val xs < val ys by have := hab.out; have := hbc.out; have := hc.out; omega)]
  go_wp2_with fail
  refine (Cmp_c _ _ _ _ _ _ _ sy sz uy uz).mono ?_; rintro e w3 ⟨rfl, hb⟩
  replace sx := sx.below hb.b
  replace sy := sy.below hb.b
  replace sz := sz.below hb.b
  replace hB := hB.trans (hb.b.mono hB.size)
  clear hb
  rw [cmpI_lt (show val ys < val zs by have := hab.out; have := hbc.out; have := hc.out; omega)]
  go_wp2_with fail
  refine (Cmp_c _ _ _ _ _ _ _ sx sx ux ux).mono ?_; rintro e w4 ⟨rfl, hb⟩
  replace sx := sx.below hb.b
  replace sy := sy.below hb.b
  replace sz := sz.below hb.b
  replace hB := hB.trans (hb.b.mono hB.size)
  clear hb
  rw [cmpI_eq (show val xs = val xs by rfl)]
  go_wp2_with fail
  refine (Cmp_c _ _ _ _ _ _ _ sy sx uy ux).mono ?_; rintro e w5 ⟨rfl, hb⟩
  replace sx := sx.below hb.b
  replace sy := sy.below hb.b
  replace sz := sz.below hb.b
  replace hB := hB.trans (hb.b.mono hB.size)
  clear hb
  rw [cmpI_gt (show val xs < val ys by have := hab.out; have := hbc.out; have := hc.out; omega)]
  go_wp2_with fail
  refine (Cmp_c _ _ _ _ _ _ _ sx sz ux uz).mono ?_; rintro e w6 ⟨rfl, hb⟩
  replace sx := sx.below hb.b
  replace sy := sy.below hb.b
  replace sz := sz.below hb.b
  replace hB := hB.trans (hb.b.mono hB.size)
  clear hb
  rw [cmpI_lt (show val xs < val zs by have := hab.out; have := hbc.out; have := hc.out; omega)]
  go_wp2_with fail
  refine (Add_c _ _ _ _ _ _ _ sx sz ux uz (by omega) (by omega)).mono ?_; rintro e w7 ⟨v1, rfl, hn, hb⟩
  replace sx := sx.below hb
  replace sy := sy.below hb
  replace sz := sz.below hb
  replace hB := hB.trans (hb.mono hB.size)
  clear hb
  obtain ⟨adS, cpS, zS, rfl, sS, nS, uS, hv⟩ := hn.sl
  have mS := Lim.eq (mx.add mz) hv
  have lS := mS.len nS uS
  have vS := Lib.hid hv
  clear hv
  clear hn
  go_wp2_with fail
  refine (Add_c _ _ _ _ _ _ _ sy sz uy uz (by omega) (by omega)).mono ?_; rintro e w8 ⟨v1, rfl, hn, hb⟩
  replace sx := sx.below hb
  replace sy := sy.below hb
  replace sz := sz.below hb
  replace sS := sS.below hb
  replace hB := hB.trans (hb.mono hB.size)
  clear hb
  obtain ⟨adT, cpT, zT, rfl, sT, nT, uT, hv⟩ := hn.sl
  have mT := Lim.eq (my.add mz) hv
  have lT := mT.len nT uT
  have vT := Lib.hid hv
  clear hv
  clear hn
  go_wp2_with fail
  refine (Cmp_c _ _ _ _ _ _ _ sS sT uS uT).mono ?_; rintro e w9 ⟨rfl, hb⟩
  replace sx := sx.below hb.b
  replace sy := sy.below hb.b
  replace sz := sz.below hb.b
  replace sS := sS.below hb.b
  replace sT := sT.below hb.b
  replace hB := hB.trans (hb.b.mono hB.size)
  clear hb
  rw [cmpI_lt (show val zS < val zT by rw [vS.out, vT.out]; have := hab.out; have := hbc.out; have := hc.out; omega)]
  clear sS
  clear sT
  go_wp2_with fail
  refine (Mul_c _ _ _ _ _ _ _ sx sz ux uz (by omega) (by omega)).mono ?_; rintro e w10 ⟨v1, rfl, hn, hb⟩
  replace sx := sx.below hb
  replace sy := sy.below hb
  replace sz := sz.below hb
  replace hB := hB.trans (hb.mono hB.size)
  clear hb
  obtain ⟨adM, cpM, zM, rfl, sM, nM, uM, hv⟩ := hn.sl
  have mM := Lim.eq (mx.mul mz) hv
  have lM := mM.len nM uM
  have vM := Lib.hid hv
  clear hv
  clear hn
  go_wp2_with fail
  refine (Mul_c _ _ _ _ _ _ _ sy sz uy uz (by omega) (by omega)).mono ?_; rintro e w11 ⟨v1, rfl, hn, hb⟩
  replace sx := sx.below hb
  replace sy := sy.below hb
  replace sz := sz.below hb
  replace sM := sM.below hb
  replace hB := hB.trans (hb.mono hB.size)
  clear hb
  obtain ⟨adV, cpV, zV, rfl, sV, nV, uV, hv⟩ := hn.sl
  have mV := Lim.eq (my.mul mz) hv
  have lV := mV.len nV uV
  have vV := Lib.hid hv
  clear hv
  clear hn
  go_wp2_with fail
  refine (Cmp_c _ _ _ _ _ _ _ sM sV uM uV).mono ?_; rintro e w12 ⟨rfl, hb⟩
  replace sx := sx.below hb.b
  replace sy := sy.below hb.b
  replace sz := sz.below hb.b
  replace sM := sM.below hb.b
  replace sV := sV.below hb.b
  replace hB := hB.trans (hb.b.mono hB.size)
  clear hb
  rw [cmpI_lt (show val zM < val zV by rw [vM.out, vV.out]; exact Nat.mul_lt_mul_of_pos_right hab.out hc.out)]
  clear sM
  clear sV
  obtain ⟨bc, hbl⟩ : ∃ bc, bc = bl (val zs) := ⟨_, rfl⟩
  have hbp : (1 : Int) ≤ (bc : Int) := by have := bl_pos (Nat.pos_iff_ne_zero.1 hc.out); omega
  have hbz : ((bc : Int) == 0) = false := by simp; omega
  have HBL := Lib.hid hbl
  clear hbl
  go_wp2_with fail
  refine (Bits_c _ _ _ _ sz uz (by omega)).mono ?_; rintro e w13 ⟨rfl, rfl⟩
  rw [← HBL.out]
  go_wp2_with fail
  refine (Bits_c _ _ _ _ sz uz (by omega)).mono ?_; rintro e w13 ⟨rfl, rfl⟩
  rw [← HBL.out]
  go_wp2_with fail
  refine (Sub_c _ _ _ _ _ _ _ sy sx uy ux (by omega) (by omega)).mono ?_; rintro e w13 hp
  obtain ⟨adD, cpD, zD, rfl, sD, nD, uD, hv, hb⟩ := hp.sl
  replace sx := sx.below hb
  replace sy := sy.below hb
  replace sz := sz.below hb
  replace hB := hB.trans (hb.mono hB.size)
  clear hb hp
  have mD := Lim.eq (my.le (Nat.sub_le _ _)) hv
  have lD := mD.len nD uD
  have vD := Lib.hid hv
  clear hv
  rw [decide_eq_true (show val xs ≤ val ys by have := hab.out; omega)]
  obtain ⟨bd, hbd⟩ : ∃ bd, bd = bl (val zD) := ⟨_, rfl⟩
  have hdp : ((bd : Int) == 0) = false := by
    have := bl_pos (n := val zD) (by rw [vD.out]; have := hab.out; omega)
    simp; omega
  have HBD := Lib.hid hbd
  clear hbd
  go_wp2_with fail
  refine (Bits_c _ _ _ _ sD uD (by omega)).mono ?_; rintro e w14 ⟨rfl, rfl⟩
  rw [← HBD.out]
  clear sD
  have hk : Blk (w13.alloc (.cells #[.int .u32 1] 52)) w13.heap.size .u32 52 [1] := cells_new .u32 w13 52 [1] #[.int .u32 1] rfl _ rfl
  have sa := hk.sl_full (by simp)
  have hb := (Below.refl w13.heap.size w13).alloc (Nat.le_refl _) (.cells #[.int .u32 1] 52)
  replace sx := sx.below hb
  replace sy := sy.below hb
  replace sz := sz.below hb
  replace hB := hB.trans (hb.mono hB.size)
  clear hb hk
  have ua : U32 [1] := .of_mem (by omega) (by simp)
  have la : ([1] : List Int).length ≤ 1 := by simp
  have ma : Lim 1 (val [1]) := .of_list ua la
  have va : Hid (val [1] = 1) := Lib.hid (by decide)
  go_wp2_with fail
  refine (Add_c _ _ _ _ _ _ _ sx sa ux ua (by omega) (by omega)).mono ?_; rintro e w14 ⟨v1, rfl, hn, hb⟩
  replace sx := sx.below hb
  replace sy := sy.below hb
  replace sz := sz.below hb
  replace sa := sa.below hb
  replace hB := hB.trans (hb.mono hB.size)
  clear hb
  obtain ⟨adI, cpI, zI, rfl, sI, nI, uI, hv⟩ := hn.sl
  have mI := Lim.eq (mx.add ma) hv
  have lI := mI.len nI uI
  have vI := Lib.hid hv
  clear hv
  clear hn
  clear sa
  go_wp2_with fail
  refine (Cmp_c _ _ _ _ _ _ _ sI sx uI ux).mono ?_; rintro e w15 ⟨rfl, hb⟩
  replace sx := sx.below hb.b
  replace sy := sy.below hb.b
  replace sz := sz.below hb.b
  replace sI := sI.below hb.b
  replace hB := hB.trans (hb.b.mono hB.size)
  clear hb
  rw [cmpI_gt (show val xs < val zI by rw [vI.out, va.out]; omega)]
  go_wp2_with fail
  refine (Cmp_c _ _ _ _ _ _ _ sI sy uI uy).mono ?_; rintro e w16 ⟨rfl, hb⟩
  replace sx := sx.below hb.b
  replace sy := sy.below hb.b
  replace sz := sz.below hb.b
  replace sI := sI.below hb.b
  replace hB := hB.trans (hb.b.mono hB.size)
  clear hb
  have hle : cmpI (val zI) (val ys) ≤ 0 := by
    have h1 := vI.out
    rw [va.out] at h1
    have := hab.out
    unfold cmpI; split
    · omega
    · rw [if_neg (by omega)]; omega
  have hrg := cmpI_rng (val zI) (val ys)
  generalize cmpI (val zI) (val ys) = cc at *
  go_wp2_with fail
  go_ret
  exact ⟨rfl, hB⟩

set_option maxHeartbeats 8000000 in
set_option maxRecDepth 100000 in
theorem NatOrder_clep (a a' a'' : Option Addr) (cap cap' cap'' : Nat) (xs ys zs : List Int) (w : World) (sx : Sl .u32 w a cap xs) (sy : Sl .u32 w a' cap' ys) (sz : Sl .u32 w a'' cap'' zs) (ux : U32 xs) (uy : U32 ys) (uz : U32 zs) (hl : xs.length + ys.length + zs.length ≤ 1048576)
    (hab : Hid (val xs < val ys)) (hbc : Hid (val ys = val zs)) (hc : Hid (0 < val zs)) :
    Calls Try.prog 9 #[.slice a xs.length cap, .slice a' ys.length cap', .slice a'' zs.length cap''] w (TruePost w) := by
  have mx : Lim 1048576 (val xs) := .of_list ux (by omega)
  have my : Lim 1048576 (val ys) := .of_list uy (by omega)
  have mz : Lim 1048576 (val zs) := .of_list uz (by omega)
  go_enter Try.func9, Try.ntmps9
  have hB := Below.refl w.heap.size w
  go_wp2_with fail
  refine (alive_c _).mono ?_; rintro e w1 ⟨rfl, hb⟩
  replace sx := sx.below hb
  replace sy := sy.below hb
  replace sz := sz.below hb
  replace hB := hB.trans (hb.mono hB.size)
  clear hb
  go_wp2_with fail
  refine (Cmp_c _ _ _ _ _ _ _ sx sy ux uy).mono ?_; rintro e w2 ⟨rfl, hb⟩
  replace sx := sx.below hb.b
  replace sy := sy.below hb.b
  replace sz := sz.below hb.b
  replace hB := hB.trans (hb.b.mono hB.size)
  clear hb
  rw [cmpI_lt (show val xs < val ys by have := hab.out; have := hbc.out; have := hc.out; omega)]
  go_wp2_with fail
  refine (Cmp_c _ _ _ _ _ _ _ sy sz uy uz).mono ?_; rintro e w3 ⟨rfl, hb⟩
  replace sx := sx.below hb.b
  replace sy := sy.below hb.b
  replace sz := sz.below hb.b
  replace hB := hB.trans (hb.b.mono hB.size)
  clear hb
  rw [cmpI_eq (show val ys = val zs by have := hab.out; have := hbc.out; have := hc.out; omega)]
  go_wp2_with fail
  refine (Cmp_c _ _ _ _ _ _ _ sx sx ux ux).mono ?_; rintro e w4 ⟨rfl, hb⟩
  replace sx := sx.below hb.b
  replace sy := sy.below hb.b
  replace sz := sz.below hb.b
  replace hB := hB.trans (hb.b.mono hB.size)
  clear hb
  rw [cmpI_eq (show val xs = val xs by rfl)]
  go_wp2_with fail
  refine (Cmp_c _ _ _ _ _ _ _ sy sx uy ux).mono ?_; rintro e w5 ⟨rfl, hb⟩
  replace sx := sx.below hb.b
  replace sy := sy.below hb.b
  replace sz := sz.below hb.b
  replace hB := hB.trans (hb.b.mono hB.size)
  clear hb
  rw [cmpI_gt (show val xs < val ys by have := hab.out; have := hbc.out; have := hc.out; omega)]
  go_wp2_with fail
  refine (Cmp_c _ _ _ _ _ _ _ sx sz ux uz).mono ?_; rintro e w6 ⟨rfl, hb⟩
  replace sx := sx.below hb.b
  replace sy := sy.below hb.b
  replace sz := sz.below hb.b
  replace hB := hB.trans (hb.b.mono hB.size)
  clear hb
  rw [cmpI_lt (show val xs < val zs by have := hab.out; have := hbc.out; have := hc.out; omega)]
  go_wp2_with fail
  refine (Add_c _ _ _ _ _ _ _ sx sz ux uz (by omega) (by omega)).mono ?_; rintro e w7 ⟨v1, rfl, hn, hb⟩
  replace sx := sx.below hb
  replace sy := sy.below hb
  replace sz := sz.below hb
  replace hB := hB.trans (hb.mono hB.size)
  clear hb
  obtain ⟨adS, cpS, zS, rfl, sS, nS, uS, hv⟩ := hn.sl
  have mS := Lim.eq (mx.add mz) hv
  have lS := mS.len nS uS
  have vS := Lib.hid hv
  clear hv
  clear hn
  go_wp2_with fail
  refine (Add_c _ _ _ _ _ _ _ sy sz uy uz (by omega) (by omega)).mono ?_; rintro e w8 ⟨v1, rfl, hn, hb⟩
  replace sx := sx.below hb
  replace sy := sy.below hb
  replace sz := sz.below hb
  replace sS := sS.below hb
  replace hB := hB.trans (hb.mono hB.size)
  clear hb
  obtain ⟨adT, cpT, zT, rfl, sT, nT, uT, hv⟩ := hn.sl
  have mT := Lim.eq (my.add mz) hv
  have lT := mT.len nT uT
  have vT := Lib.hid hv
  clear hv
  clear hn
  go_wp2_with fail
  refine (Cmp_c _ _ _ _ _ _ _ sS sT uS uT).mono ?_; rintro e w9 ⟨rfl, hb⟩
  replace sx := sx.below hb.b
  replace sy := sy.below hb.b
  replace sz := sz.below hb.b
  replace sS := sS.below hb.b
  replace sT := sT.below hb.b
  replace hB := hB.trans (hb.b.mono hB.size)
  clear hb
  rw [cmpI_lt (show val zS < val zT by rw [vS.out, vT.out]; have := hab.out; have := hbc.out; have := hc.out; omega)]
  clear sS
  clear sT
  go_wp2_with fail
  refine (Mul_c _ _ _ _ _ _ _ sx sz ux uz (by omega) (by omega)).mono ?_; rintro e w10 ⟨v1, rfl, hn, hb⟩
  replace sx := sx.below hb
  replace sy := sy.below hb
  replace sz := sz.below hb
  replace hB := hB.trans (hb.mono hB.size)
  clear hb
  obtain ⟨adM, cpM, zM, rfl, sM, nM, uM, hv⟩ := hn.sl
  have mM := Lim.eq (mx.mul mz) hv
  have lM := mM.len nM uM
  have vM := Lib.hid hv
  clear hv
  clear hn
  go_wp2_with fail
  refine (Mul_c _ _ _ _ _ _ _ sy sz uy uz (by omega) (by omega)).mono ?_; rintro e w11 ⟨v1, rfl, hn, hb⟩
  replace sx := sx.below hb
  replace sy := sy.below hb
  replace sz := sz.below hb
  replace sM := sM.below hb
  replace hB := hB.trans (hb.mono hB.size)
  clear hb
  obtain ⟨adV, cpV, zV, rfl, sV, nV, uV, hv⟩ := hn.sl
  have mV := Lim.eq (my.mul mz) hv
  have lV := mV.len nV uV
  have vV := Lib.hid hv
  clear hv
  clear hn
  go_wp2_with fail
  refine (Cmp_c _ _ _ _ _ _ _ sM sV uM uV).mono ?_; rintro e w12 ⟨rfl, hb⟩
  replace sx := sx.below hb.b
  replace sy := sy.below hb.b
  replace sz := sz.below hb.b
  replace sM := sM.below hb.b
  replace sV := sV.below hb.b
  replace hB := hB.trans (hb.b.mono hB.size)
  clear hb
  rw [cmpI_lt (show val zM < val zV by rw [vM.out, vV.out]; exact Nat.mul_lt_mul_of_pos_right hab.out hc.out)]
  clear sM
  clear sV
  obtain ⟨bc, hbl⟩ : ∃ bc, bc = bl (val zs) := ⟨_, rfl⟩
  have hbp : (1 : Int) ≤ (bc : Int) := by have := bl_pos (Nat.pos_iff_ne_zero.1 hc.out); omega
  have hbz : ((bc : Int) == 0) = false := by simp; omega
  have HBL := Lib.hid hbl
  clear hbl
  go_wp2_with fail
  refine (Bits_c _ _ _ _ sz uz (by omega)).mono ?_; rintro e w13 ⟨rfl, rfl⟩
  rw [← HBL.out]
  go_wp2_with fail
  refine (Bits_c _ _ _ _ sz uz (by omega)).mono ?_; rintro e w13 ⟨rfl, rfl⟩
  rw [← HBL.out]
  go_wp2_with fail
  refine (Sub_c _ _ _ _ _ _ _ sy sx uy ux (by omega) (by omega)).mono ?_; rintro e w13 hp
  obtain ⟨adD, cpD, zD, rfl, sD, nD, uD, hv, hb⟩ := hp.sl
  replace sx := sx.below hb
  replace sy := sy.below hb
  replace sz := sz.below hb
  replace hB := hB.trans (hb.mono hB.size)
  clear hb hp
  have mD := Lim.eq (my.le (Nat.sub_le _ _)) hv
  have lD := mD.len nD uD
  have vD := Lib.hid hv
  clear hv
  rw [decide_eq_true (show val xs ≤ val ys by have := hab.out; omega)]
  obtain ⟨bd, hbd⟩ : ∃ bd, bd = bl (val zD) := ⟨_, rfl⟩
  have hdp : ((bd : Int) == 0) = false := by
    have := bl_pos (n := val zD) (by rw [vD.out]; have := hab.out; omega)
    simp; omega
  have HBD := Lib.hid hbd
  clear hbd
  go_wp2_with fail
  refine (Bits_c _ _ _ _ sD uD (by omega)).mono ?_; rintro e w14 ⟨rfl, rfl⟩
  rw [← HBD.out]
  clear sD
  have hk : Blk (w13.alloc (.cells #[.int .u32 1] 52)) w13.heap.size .u32 52 [1] := cells_new .u32 w13 52 [1] #[.int .u32 1] rfl _ rfl
  have sa := hk.sl_full (by simp)
  have hb := (Below.refl w13.heap.size w13).alloc (Nat.le_refl _) (.cells #[.int .u32 1] 52)
  replace sx := sx.below hb
  replace sy := sy.below hb
  replace sz := sz.below hb
  replace hB := hB.trans (hb.mono hB.size)
  clear hb hk
  have ua : U32 [1] := .of_mem (by omega) (by simp)
  have la : ([1] : List Int).length ≤ 1 := by simp
  have ma : Lim 1 (val [1]) := .of_list ua la
  have va : Hid (val [1] = 1) := Lib.hid (by decide)
  go_wp2_with fail
  refine (Add_c _ _ _ _ _ _ _ sx sa ux ua (by omega) (by omega)).mono ?_; rintro e w14 ⟨v1, rfl, hn, hb⟩
  replace sx := sx.below hb
  replace sy := sy.below hb
  replace sz := sz.below hb
  replace sa := sa.below hb
  replace hB := hB.trans (hb.mono hB.size)
  clear hb
  obtain ⟨adI, cpI, zI, rfl, sI, nI, uI, hv⟩ := hn.sl
  have mI := Lim.eq (mx.add ma) hv
  have lI := mI.len nI uI
  have vI := Lib.hid hv
  clear hv
  clear hn
  clear sa
  go_wp2_with fail
  refine (Cmp_c _ _ _ _ _ _ _ sI sx uI ux).mono ?_; rintro e w15 ⟨rfl, hb⟩
  replace sx := sx.below hb.b
  replace sy := sy.below hb.b
  replace sz := sz.below hb.b
  replace sI := sI.below hb.b
  replace hB := hB.trans (hb.b.mono hB.size)
  clear hb
  rw [cmpI_gt (show val xs < val zI by rw [vI.out, va.out]; omega)]
  go_wp2_with fail
  refine (Cmp_c _ _ _ _ _ _ _ sI sy uI uy).mono ?_; rintro e w16 ⟨rfl, hb⟩
  replace sx := sx.below hb.b
  replace sy := sy.below hb.b
  replace sz := sz.below hb.b
  replace sI := sI.below hb.b
  replace hB := hB.trans (hb.b.mono hB.size)
  clear hb
  have hle : cmpI (val zI) (val ys) ≤ 0 := by
    have h1 := vI.out
    rw [va.out] at h1
    have := hab.out
    unfold cmpI; split
    · omega
    · rw [if_neg (by omega)]; omega
  have hrg := cmpI_rng (val zI) (val ys)
  generalize cmpI (val zI) (val ys) = cc at *
  go_wp2_with fail
  go_ret
  exact ⟨rfl, hB⟩

set_option maxHeartbeats 8000000 in
set_option maxRecDepth 100000 in
theorem NatOrder_clez (a a' a'' : Option Addr) (cap cap' cap'' : Nat) (xs ys zs : List Int) (w : World) (sx : Sl .u32 w a cap xs) (sy : Sl .u32 w a' cap' ys) (sz : Sl .u32 w a'' cap'' zs) (ux : U32 xs) (uy : U32 ys) (uz : U32 zs) (hl : xs.length + ys.length + zs.length ≤ 1048576)
    (hab : Hid (val xs < val ys)) (hbc : Hid (val ys = val zs)) (hc : Hid (val zs = 0)) :
    Calls Try.prog 9 #[.slice a xs.length cap, .slice a' ys.length cap', .slice a'' zs.length cap''] w (TruePost w) := by
  have mx : Lim 1048576 (val xs) := .of_list ux (by omega)
  have my : Lim 1048576 (val ys) := .of_list uy (by omega)
  have mz : Lim 1048576 (val zs) := .of_list uz (by omega)
  go_enter Try.func9, Try.ntmps9
  have hB := Below.refl w.heap.size w
  go_wp2_with fail
  refine (alive_c _).mono ?_; rintro e w1 ⟨rfl, hb⟩
  replace sx := sx.below hb
  replace sy := sy.below hb
  replace sz := sz.below hb
  replace hB := hB.trans (hb.mono hB.size)
  clear hb
  go_wp2_with fail
  refine (Cmp_c _ _ _ _ _ _ _ sx sy ux uy).mono ?_; rintro e w2 ⟨rfl, hb⟩
  replace sx := sx.below hb.b
  replace sy := sy.below hb.b
  replace sz := sz.below hb.b
  replace hB := hB.trans (hb.b.mono hB.size)
  clear hb
  rw [cmpI_lt (show val xs < val ys by have := hab.out; have := hbc.out; have := hc.out; omega)]
  go_wp2_with fail
  refine (Cmp_c _ _ _ _ _ _ _ sy sz uy uz).mono ?_; rintro e w3 ⟨rfl, hb⟩
  replace sx := sx.below hb.b
  replace sy := sy.below hb.b
  replace sz := sz.below hb.b
  replace hB := hB.trans (hb.b.mono hB.size)
  clear hb
  rw [cmpI_eq (show val ys = val zs by have := hab.out; have := hbc.out; have := hc.out; omega)]
  go_wp2_with fail
  refine (Cmp_c _ _ _ _ _ _ _ sx sx ux ux).mono ?_; rintro e w4 ⟨rfl, hb⟩
  replace sx := sx.below hb.b
  replace sy := sy.below hb.b
  replace sz := sz.below hb.b
  replace hB := hB.trans (hb.b.mono hB.size)
  clear hb
  rw [cmpI_eq (show val xs = val xs by rfl)]
  go_wp2_with fail
  refine (Cmp_c _ _ _ _ _ _ _ sy sx uy ux).mono ?_; rintro e w5 ⟨rfl, hb⟩
  replace sx := sx.below hb.b
  replace sy := sy.below hb.b
  replace sz := sz.below hb.b
  replace hB := hB.trans (hb.b.mono hB.size)
  clear hb
  rw [cmpI_gt (show val xs < val ys by have := hab.out; have := hbc.out; have := hc.out; omega)]
  go_wp2_with fail
  refine (Cmp_c _ _ _ _ _ _ _ sx sz ux uz).mono ?_; rintro e w6 ⟨rfl, hb⟩
  replace sx := sx.below hb.b
  replace sy := sy.below hb.b
  replace sz := sz.below hb.b
  replace hB := hB.trans (hb.b.mono hB.size)
  clear hb
  rw [cmpI_lt (show val xs < val zs by have := hab.out; have := hbc.out; have := hc.out; omega)]
  go_wp2_with fail
  refine (Add_c _ _ _ _ _ _ _ sx sz ux uz (by omega) (by omega)).mono ?_; rintro e w7 ⟨v1, rfl, hn, hb⟩
  replace sx := sx.below hb
  replace sy := sy.below hb
  replace sz := sz.below hb
  replace hB := hB.trans (hb.mono hB.size)
  clear hb
  obtain ⟨adS, cpS, zS, rfl, sS, nS, uS, hv⟩ := hn.sl
  have mS := Lim.eq (mx.add mz) hv
  have lS := mS.len nS uS
  have vS := Lib.hid hv
  clear hv
  clear hn
  go_wp2_with fail
  refine (Add_c _ _ _ _ _ _ _ sy sz uy uz (by omega) (by omega)).mono ?_; rintro e w8 ⟨v1, rfl, hn, hb⟩
  replace sx := sx.below hb
  replace sy := sy.below hb
  replace sz := sz.below hb
  replace sS := sS.below hb
  replace hB := hB.trans (hb.mono hB.size)
  clear hb
  obtain ⟨adT, cpT, zT, rfl, sT, nT, uT, hv⟩ := hn.sl
  have mT := Lim.eq (my.add mz) hv
  have lT := mT.len nT uT
  have vT := Lib.hid hv
  clear hv
  clear hn
  go_wp2_with fail
  refine (Cmp_c _ _ _ _ _ _ _ sS sT uS uT).mono ?_; rintro e w9 ⟨rfl, hb⟩
  replace sx := sx.below hb.b
  replace sy := sy.below hb.b
  replace sz := sz.below hb.b
  replace sS := sS.below hb.b
  replace sT := sT.below hb.b
  replace hB := hB.trans (hb.b.mono hB.size)
  clear hb
  rw [cmpI_lt (show val zS < val zT by rw [vS.out, vT.out]; have := hab.out; have := hbc.out; have := hc.out; omega)]
  clear sS
  clear sT
  go_wp2_with fail
  refine (Mul_c _ _ _ _ _ _ _ sx sz ux uz (by omega) (by omega)).mono ?_; rintro e w10 ⟨v1, rfl, hn, hb⟩
  replace sx := sx.below hb
  replace sy := sy.below hb
  replace sz := sz.below hb
  replace hB := hB.trans (hb.mono hB.size)
  clear hb
  obtain ⟨adM, cpM, zM, rfl, sM, nM, uM, hv⟩ := hn.sl
  have mM := Lim.eq (mx.mul mz) hv
  have lM := mM.len nM uM
  have vM := Lib.hid hv
  clear hv
  clear hn
  go_wp2_with fail
  refine (Mul_c _ _ _ _ _ _ _ sy sz uy uz (by omega) (by omega)).mono ?_; rintro e w11 ⟨v1, rfl, hn, hb⟩
  replace sx := sx.below hb
  replace sy := sy.below hb
  replace sz := sz.below hb
  replace sM := sM.below hb
  replace hB := hB.trans (hb.mono hB.size)
  clear hb
  obtain ⟨adV, cpV, zV, rfl, sV, nV, uV, hv⟩ := hn.sl
  have mV := Lim.eq (my.mul mz) hv
  have lV := mV.len nV uV
  have vV := Lib.hid hv
  clear hv
  clear hn
  go_wp2_with fail
  refine (Cmp_c _ _ _ _ _ _ _ sM sV uM uV).mono ?_; rintro e w12 ⟨rfl, hb⟩
  replace sx := sx.below hb.b
  replace sy := sy.below hb.b
  replace sz := sz.below hb.b
  replace sM := sM.below hb.b
  replace sV := sV.below hb.b
  replace hB := hB.trans (hb.b.mono hB.size)
  clear hb
  rw [cmpI_eq (show val zM = val zV by rw [vM.out, vV.out, hc.out, Nat.mul_zero, Nat.mul_zero])]
  clear sM
  clear sV
  obtain ⟨bc, hbl⟩ : ∃ bc, bc = bl (val zs) := ⟨_, rfl⟩
  obtain rfl : bc = 0 := by rw [hbl, hc.out]; rfl
  have HBL := Lib.hid hbl
  clear hbl
  go_wp2_with fail
  refine (Bits_c _ _ _ _ sz uz (by omega)).mono ?_; rintro e w13 ⟨rfl, rfl⟩
  rw [← HBL.out]
  go_wp2_with fail
  refine (Bits_c _ _ _ _ sz uz (by omega)).mono ?_; rintro e w13 ⟨rfl, rfl⟩
  rw [← HBL.out]
  go_wp2_with fail
  refine (Sub_c _ _ _ _ _ _ _ sy sx uy ux (by omega) (by omega)).mono ?_; rintro e w13 hp
  obtain ⟨adD, cpD, zD, rfl, sD, nD, uD, hv, hb⟩ := hp.sl
  replace sx := sx.below hb
  replace sy := sy.below hb
  replace sz := sz.below hb
  replace hB := hB.trans (hb.mono hB.size)
  clear hb hp
  have mD := Lim.eq (my.le (Nat.sub_le _ _)) hv
  have lD := mD.len nD uD
  have vD := Lib.hid hv
  clear hv
  rw [decide_eq_true (show val xs ≤ val ys by have := hab.out; omega)]
  obtain ⟨bd, hbd⟩ : ∃ bd, bd = bl (val zD) := ⟨_, rfl⟩
  have hdp : ((bd : Int) == 0) = false := by
    have := bl_pos (n := val zD) (by rw [vD.out]; have := hab.out; omega)
    simp; omega
  have HBD := Lib.hid hbd
  clear hbd
  go_wp2_with fail
  refine (Bits_c _ _ _ _ sD uD (by omega)).mono ?_; rintro e w14 ⟨rfl, rfl⟩
  rw [← HBD.out]
  clear sD
  have hk : Blk (w13.alloc (.cells #[.int .u32 1] 52)) w13.heap.size .u32 52 [1] := cells_new .u32 w13 52 [1] #[.int .u32 1] rfl _ rfl
  have sa := hk.sl_full (by simp)
  have hb := (Below.refl w13.heap.size w13).alloc (Nat.le_refl _) (.cells #[.int .u32 1] 52)
  replace sx := sx.below hb
  replace sy := sy.below hb
  replace sz := sz.below hb
  replace hB := hB.trans (hb.mono hB.size)
  clear hb hk
  have ua : U32 [1] := .of_mem (by omega) (by simp)
  have la : ([1] : List Int).length ≤ 1 := by simp
  have ma : Lim 1 (val [1]) := .of_list ua la
  have va : Hid (val [1] = 1) := Lib.hid (by decide)
  go_wp2_with fail
  refine (Add_c _ _ _ _ _ _ _ sx sa ux ua (by omega) (by omega)).mono ?_; rintro e w14 ⟨v1, rfl, hn, hb⟩
  replace sx := sx.below hb
  replace sy := sy.below hb
  replace sz := sz.below hb
  replace sa := sa.below hb
  replace hB := hB.trans (hb.mono hB.size)
  clear hb
  obtain ⟨adI, cpI, zI, rfl, sI, nI, uI, hv⟩ := hn.sl
  have mI := Lim.eq (mx.add ma) hv
  have lI := mI.len nI uI
  have vI := Lib.hid hv
  clear hv
  clear hn
  clear sa
  go_wp2_with fail
  refine (Cmp_c _ _ _ _ _ _ _ sI sx uI ux).mono ?_; rintro e w15 ⟨rfl, hb⟩
  replace sx := sx.below hb.b
  replace sy := sy.below hb.b
  replace sz := sz.below hb.b
  replace sI := sI.below hb.b
  replace hB := hB.trans (hb.b.mono hB.size)
  clear hb
  rw [cmpI_gt (show val xs < val zI by rw [vI.out, va.out]; omega)]
  go_wp2_with fail
  refine (Cmp_c _ _ _ _ _ _ _ sI sy uI uy).mono ?_; rintro e w16 ⟨rfl, hb⟩
  replace sx := sx.below hb.b
  replace sy := sy.below hb.b
  replace sz := sz.below hb.b
  replace sI := sI.below hb.b
  replace hB := hB.trans (hb.b.mono hB.size)
  clear hb
  have hle : cmpI (val zI) (val ys) ≤ 0 := by
    have h1 := vI.out
    rw [va.out] at h1
    have := hab.out
    unfold cmpI; split
    · omega
    · rw [if_neg (by omega)]; omega
  have hrg := cmpI_rng (val zI) (val ys)
  generalize cmpI (val zI) (val ys) = cc at *
  go_wp2_with fail
  go_ret
  exact ⟨rfl, hB⟩

set_option maxHeartbeats 8000000 in
set_option maxRecDepth 100000 in
theorem NatOrder_clgp (a a' a'' : Option Addr) (cap cap' cap'' : Nat) (xs ys zs : List Int) (w : World) (sx : Sl .u32 w a cap xs) (sy : Sl .u32 w a' cap' ys) (sz : Sl .u32 w a'' cap'' zs) (ux : U32 xs) (uy : U32 ys) (uz : U32 zs) (hl : xs.length + ys.length + zs.length ≤ 1048576)
    (hab : Hid (val xs < val ys)) (hbc : Hid (val zs < val ys)) (hc : Hid (0 < val zs)) :
    Calls Try.prog 9 #[.slice a xs.length cap, .slice a' ys.length cap', .slice a'' zs.length cap''] w (TruePost w) := by
  have mx : Lim 1048576 (val xs) := .of_list ux (by omega)
  have my : Lim 1048576 (val ys) := .of_list uy (by omega)
  have mz : Lim 1048576 (val zs) := .of_list uz (by omega)
  go_enter Try.func9, Try.ntmps9
  have hB := Below.refl w.heap.size w
  go_wp2_with fail
  refine (alive_c _).mono ?_; rintro e w1 ⟨rfl, hb⟩
  replace sx := sx.below hb
  replace sy := sy.below hb
  replace sz := sz.below hb
  replace hB := hB.trans (hb.mono hB.size)
  clear hb
  go_wp2_with fail
  refine (Cmp_c _ _ _ _ _ _ _ sx sy ux uy).mono ?_; rintro e w2 ⟨rfl, hb⟩
  replace sx := sx.below hb.b
  replace sy := sy.below hb.b
  replace sz := sz.below hb.b
  replace hB := hB.trans (hb.b.mono hB.size)
  clear hb
  rw [cmpI_lt (show val xs < val ys by have := hab.out; have := hbc.out; have := hc.out; omega)]
  go_wp2_with fail
  refine (Cmp_c _ _ _ _ _ _ _ sy sz uy uz).mono ?_; rintro e w3 ⟨rfl, hb⟩
  replace sx := sx.below hb.b
  replace sy := sy.below hb.b
  replace sz := sz.below hb.b
  replace hB := hB.trans (hb.b.mono hB.size)
  clear hb
  rw [cmpI_gt (show val zs < val ys by have := hab.out; have := hbc.out; have := hc.out; omega)]
  go_wp2_with fail
  refine (Cmp_c _ _ _ _ _ _ _ sx sx ux ux).mono ?_; rintro e w4 ⟨rfl, hb⟩
  replace sx := sx.below hb.b
  replace sy := sy.below hb.b
  replace sz := sz.below hb.b
  replace hB := hB.trans (hb.b.mono hB.size)
  clear hb
  rw [cmpI_eq (show val xs = val xs by rfl)]
  go_wp2_with fail
  refine (Cmp_c _ _ _ _ _ _ _ sy sx uy ux).mono ?_; rintro e w5 ⟨rfl, hb⟩
  replace sx := sx.below hb.b
  replace sy := sy.below hb.b
  replace sz := sz.below hb.b
  replace hB := hB.trans (hb.b.mono hB.size)
  clear hb
  rw [cmpI_gt (show val xs < val ys by have := hab.out; have := hbc.out; have := hc.out; omega)]
  go_wp2_with fail
  refine (Add_c _ _ _ _ _ _ _ sx sz ux uz (by omega) (by omega)).mono ?_; rintro e w6 ⟨v1, rfl, hn, hb⟩
  replace sx := sx.below hb
  replace sy := sy.below hb
  replace sz := sz.below hb
  replace hB := hB.trans (hb.mono hB.size)
  clear hb
  obtain ⟨adS, cpS, zS, rfl, sS, nS, uS, hv⟩ := hn.sl
  have mS := Lim.eq (mx.add mz) hv
  have lS := mS.len nS uS
  have vS := Lib.hid hv
  clear hv
  clear hn
  go_wp2_with fail
  refine (Add_c _ _ _ _ _ _ _ sy sz uy uz (by omega) (by omega)).mono ?_; rintro e w7 ⟨v1, rfl, hn, hb⟩
  replace sx := sx.below hb
  replace sy := sy.below hb
  replace sz := sz.below hb
  replace sS := sS.below hb
  replace hB := hB.trans (hb.mono hB.size)
  clear hb
  obtain ⟨adT, cpT, zT, rfl, sT, nT, uT, hv⟩ := hn.sl
  have mT := Lim.eq (my.add mz) hv
  have lT := mT.len nT uT
  have vT := Lib.hid hv
  clear hv
  clear hn
  go_wp2_with fail
  refine (Cmp_c _ _ _ _ _ _ _ sS sT uS uT).mono ?_; rintro e w8 ⟨rfl, hb⟩
  replace sx := sx.below hb.b
  replace sy := sy.below hb.b
  replace sz := sz.below hb.b
  replace sS := sS.below hb.b
  replace sT := sT.below hb.b
  replace hB := hB.trans (hb.b.mono hB.size)
  clear hb
  rw [cmpI_lt (show val zS < val zT by rw [vS.out, vT.out]; have := hab.out; have := hbc.out; have := hc.out; omega)]
  clear sS
  clear sT
  go_wp2_with fail
  refine (Mul_c _ _ _ _ _ _ _ sx sz ux uz (by omega) (by omega)).mono ?_; rintro e w9 ⟨v1, rfl, hn, hb⟩
  replace sx := sx.below hb
  replace sy := sy.below hb
  replace sz := sz.below hb
  replace hB := hB.trans (hb.mono hB.size)
  clear hb
  obtain ⟨adM, cpM, zM, rfl, sM, nM, uM, hv⟩ := hn.sl
  have mM := Lim.eq (mx.mul mz) hv
  have lM := mM.len nM uM
  have vM := Lib.hid hv
  clear hv
  clear hn
  go_wp2_with fail
  refine (Mul_c _ _ _ _ _ _ _ sy sz uy uz (by omega) (by omega)).mono ?_; rintro e w10 ⟨v1, rfl, hn, hb⟩
  replace sx := sx.below hb
  replace sy := sy.below hb
  replace sz := sz.below hb
  replace sM := sM.below hb
  replace hB := hB.trans (hb.mono hB.size)
  clear hb
  obtain ⟨adV, cpV, zV, rfl, sV, nV, uV, hv⟩ := hn.sl
  have mV := Lim.eq (my.mul mz) hv
  have lV := mV.len nV uV
  have vV := Lib.hid hv
  clear hv
  clear hn
  go_wp2_with fail
  refine (Cmp_c _ _ _ _ _ _ _ sM sV uM uV).mono ?_; rintro e w11 ⟨rfl, hb⟩
  replace sx := sx.below hb.b
  replace sy := sy.below hb.b
  replace sz := sz.below hb.b
  replace sM := sM.below hb.b
  replace sV := sV.below hb.b
  replace hB := hB.trans (hb.b.mono hB.size)
  clear hb
  rw [cmpI_lt (show val zM < val zV by rw [vM.out, vV.out]; exact Nat.mul_lt_mul_of_pos_right hab.out hc.out)]
  clear sM
  clear sV
  obtain ⟨bc, hbl⟩ : ∃ bc, bc = bl (val zs) := ⟨_, rfl⟩
  have hbp : (1 : Int) ≤ (bc : Int) := by have := bl_pos (Nat.pos_iff_ne_zero.1 hc.out); omega
  have hbz : ((bc : Int) == 0) = false := by simp; omega
  have HBL := Lib.hid hbl
  clear hbl
  go_wp2_with fail
  refine (Bits_c _ _ _ _ sz uz (by omega)).mono ?_; rintro e w12 ⟨rfl, rfl⟩
  rw [← HBL.out]
  go_wp2_with fail
  refine (Bits_c _ _ _ _ sz uz (by omega)).mono ?_; rintro e w12 ⟨rfl, rfl⟩
  rw [← HBL.out]
  go_wp2_with fail
  refine (Sub_c _ _ _ _ _ _ _ sy sx uy ux (by omega) (by omega)).mono ?_; rintro e w12 hp
  obtain ⟨adD, cpD, zD, rfl, sD, nD, uD, hv, hb⟩ := hp.sl
  replace sx := sx.below hb
  replace sy := sy.below hb
  replace sz := sz.below hb
  replace hB := hB.trans (hb.mono hB.size)
  clear hb hp
  have mD := Lim.eq (my.le (Nat.sub_le _ _)) hv
  have lD := mD.len nD uD
  have vD := Lib.hid hv
  clear hv
  rw [decide_eq_true (show val xs ≤ val ys by have := hab.out; omega)]
  obtain ⟨bd, hbd⟩ : ∃ bd, bd = bl (val zD) := ⟨_, rfl⟩
  have hdp : ((bd : Int) == 0) = false := by
    have := bl_pos (n := val zD) (by rw [vD.out]; have := hab.out; omega)
    simp; omega
  have HBD := Lib.hid hbd
  clear hbd
  go_wp2_with fail
  refine (Bits_c _ _ _ _ sD uD (by omega)).mono ?_; rintro e w13 ⟨rfl, rfl⟩
  rw [← HBD.out]
  clear sD
  have hk : Blk (w12.alloc (.cells #[.int .u32 1] 52)) w12.heap.size .u32 52 [1] := cells_new .u32 w12 52 [1] #[.int .u32 1] rfl _ rfl
  have sa := hk.sl_full (by simp)
  have hb := (Below.refl w12.heap.size w12).alloc (Nat.le_refl _) (.cells #[.int .u32 1] 52)
  replace sx := sx.below hb
  replace sy := sy.below hb
  replace sz := sz.below hb
  replace hB := hB.trans (hb.mono hB.size)
  clear hb hk
  have ua : U32 [1] := .of_mem (by omega) (by simp)
  have la : ([1] : List Int).length ≤ 1 := by simp
  have ma : Lim 1 (val [1]) := .of_list ua la
  have va : Hid (val [1] = 1) := Lib.hid (by decide)
  go_wp2_with fail
  refine (Add_c _ _ _ _ _ _ _ sx sa ux ua (by omega) (by omega)).mono ?_; rintro e w13 ⟨v1, rfl, hn, hb⟩
  replace sx := sx.below hb
  replace sy := sy.below hb
  replace sz := sz.below hb
  replace sa := sa.below hb
  replace hB := hB.trans (hb.mono hB.size)
  clear hb
  obtain ⟨adI, cpI, zI, rfl, sI, nI, uI, hv⟩ := hn.sl
  have mI := Lim.eq (mx.add ma) hv
  have lI := mI.len nI uI
  have vI := Lib.hid hv
  clear hv
  clear hn
  clear sa
  go_wp2_with fail
  refine (Cmp_c _ _ _ _ _ _ _ sI sx uI ux).mono ?_; rintro e w14 ⟨rfl, hb⟩
  replace sx := sx.below hb.b
  replace sy := sy.below hb.b
  replace sz := sz.below hb.b
  replace sI := sI.below hb.b
  replace hB := hB.trans (hb.b.mono hB.size)
  clear hb
  rw [cmpI_gt (show val xs < val zI by rw [vI.out, va.out]; omega)]
  go_wp2_with fail
  refine (Cmp_c _ _ _ _ _ _ _ sI sy uI uy).mono ?_; rintro e w15 ⟨rfl, hb⟩
  replace sx := sx.below hb.b
  replace sy := sy.below hb.b
  replace sz := sz.below hb.b
  replace sI := sI.below hb.b
  replace hB := hB.trans (hb.b.mono hB.size)
  clear hb
  have hle : cmpI (val zI) (val ys) ≤ 0 := by
    have h1 := vI.out
    rw [va.out] at h1
    have := hab.out
    unfold cmpI; split
    · omega
    · rw [if_neg (by omega)]; omega
  have hrg := cmpI_rng (val zI) (val ys)
  generalize cmpI (val zI) (val ys) = cc at *
  go_wp2_with fail
  go_ret
  exact ⟨rfl, hB⟩

set_option maxHeartbeats 8000000 in
set_option maxRecDepth 100000 in
theorem NatOrder_clgz (a a' a'' : Option Addr) (cap cap' cap'' : Nat) (xs ys zs : List Int) (w : World) (sx : Sl .u32 w a cap xs) (sy : Sl .u32 w a' cap' ys) (sz : Sl .u32 w a'' cap'' zs) (ux : U32 xs) (uy : U32 ys) (uz : U32 zs) (hl : xs.length + ys.length + zs.length ≤ 1048576)
    (hab : Hid (val xs < val ys)) (hbc : Hid (val zs < val ys)) (hc : Hid (val zs = 0)) :
    Calls Try.prog 9 #[.slice a xs.length cap, .slice a' ys.length cap', .slice a'' zs.length cap''] w (TruePost w) := by
  have mx : Lim 1048576 (val xs) := .of_list ux (by omega)
  have my : Lim 1048576 (val ys) := .of_list uy (by omega)
  have mz : Lim 1048576 (val zs) := .of_list uz (by omega)
  go_enter Try.func9, Try.ntmps9
  have hB := Below.refl w.heap.size w
  go_wp2_with fail
  refine (alive_c _).mono ?_; rintro e w1 ⟨rfl, hb⟩
  replace sx := sx.below hb
  replace sy := sy.below hb
  replace sz := sz.below hb
  replace hB := hB.trans (hb.mono hB.size)
  clear hb
  go_wp2_with fail
  refine (Cmp_c _ _ _ _ _ _ _ sx sy ux uy).mono ?_; rintro e w2 ⟨rfl, hb⟩
  replace sx := sx.below hb.b
  replace sy := sy.below hb.b
  replace sz := sz.below hb.b
  replace hB := hB.trans (hb.b.mono hB.size)
  clear hb
  rw [cmpI_lt (show val xs < val ys by have := hab.out; have := hbc.out; have := hc.out; omega)]
  go_wp2_with fail
  refine (Cmp_c _ _ _ _ _ _ _ sy sz uy uz).mono ?_; rintro e w3 ⟨rfl, hb⟩
  replace sx := sx.below hb.b
  replace sy := sy.below hb.b
  replace sz := sz.below hb.b
  replace hB := hB.trans (hb.b.mono hB.size)
  clear hb
  rw [cmpI_gt (show val zs < val ys by have := hab.out; have := hbc.out; have := hc.out; omega)]
  go_wp2_with fail
  refine (Cmp_c _ _ _ _ _ _ _ sx sx ux ux).mono ?_; rintro e w4 ⟨rfl, hb⟩
  replace sx := sx.below hb.b
  replace sy := sy.below hb.b
  replace sz := sz.below hb.b
  replace hB := hB.trans (hb.b.mono hB.size)
  clear hb
  rw [cmpI_eq (show val xs = val xs by rfl)]
  go_wp2_with fail
  refine (Cmp_c _ _ _ _ _ _ _ sy sx uy ux).mono ?_; rintro e w5 ⟨rfl, hb⟩
  replace sx := sx.below hb.b
  replace sy := sy.below hb.b
  replace sz := sz.below hb.b
  replace hB := hB.trans (hb.b.mono hB.size)
  clear hb
  rw [cmpI_gt (show val xs < val ys by have := hab.out; have := hbc.out; have := hc.out; omega)]
  go_wp2_with fail
  refine (Add_c _ _ _ _ _ _ _ sx sz ux uz (by omega) (by omega)).mono ?_; rintro e w6 ⟨v1, rfl, hn, hb⟩
  replace sx := sx.below hb
  replace sy := sy.below hb
  replace sz := sz.below hb
  replace hB := hB.trans (hb.mono hB.size)
  clear hb
  obtain ⟨adS, cpS, zS, rfl, sS, nS, uS, hv⟩ := hn.sl
  have mS := Lim.eq (mx.add mz) hv
  have lS := mS.len nS uS
  have vS := Lib.hid hv
  clear hv
  clear hn
  go_wp2_with fail
  refine (Add_c _ _ _ _ _ _ _ sy sz uy uz (by omega) (by omega)).mono ?_; rintro e w7 ⟨v1, rfl, hn, hb⟩
  replace sx := sx.below hb
  replace sy := sy.below hb
  replace sz := sz.below hb
  replace sS := sS.below hb
  replace hB := hB.trans (hb.mono hB.size)
  clear hb
  obtain ⟨adT, cpT, zT, rfl, sT, nT, uT, hv⟩ := hn.sl
  have mT := Lim.eq (my.add mz) hv
  have lT := mT.len nT uT
  have vT := Lib.hid hv
  clear hv
  clear hn
  go_wp2_with fail
  refine (Cmp_c _ _ _ _ _ _ _ sS sT uS uT).mono ?_; rintro e w8 ⟨rfl, hb⟩
  replace sx := sx.below hb.b
  replace sy := sy.below hb.b
  replace sz := sz.below hb.b
  replace sS := sS.below hb.b
  replace sT := sT.below hb.b
  replace hB := hB.trans (hb.b.mono hB.size)
  clear hb
  rw [cmpI_lt (show val zS < val zT by rw [vS.out, vT.out]; have := hab.out; have := hbc.out; have := hc.out; omega)]
  clear sS
  clear sT
  go_wp2_with fail
  refine (Mul_c _ _ _ _ _ _ _ sx sz ux uz (by omega) (by omega)).mono ?_; rintro e w9 ⟨v1, rfl, hn, hb⟩
  replace sx := sx.below hb
  replace sy := sy.below hb
  replace sz := sz.below hb
  replace hB := hB.trans (hb.mono hB.size)
  clear hb
  obtain ⟨adM, cpM, zM, rfl, sM, nM, uM, hv⟩ := hn.sl
  have mM := Lim.eq (mx.mul mz) hv
  have lM := mM.len nM uM
  have vM := Lib.hid hv
  clear hv
  clear hn
  go_wp2_with fail
  refine (Mul_c _ _ _ _ _ _ _ sy sz uy uz (by omega) (by omega)).mono ?_; rintro e w10 ⟨v1, rfl, hn, hb⟩
  replace sx := sx.below hb
  replace sy := sy.below hb
  replace sz := sz.below hb
  replace sM := sM.below hb
  replace hB := hB.trans (hb.mono hB.size)
  clear hb
  obtain ⟨adV, cpV, zV, rfl, sV, nV, uV, hv⟩ := hn.sl
  have mV := Lim.eq (my.mul mz) hv
  have lV := mV.len nV uV
  have vV := Lib.hid hv
  clear hv
  clear hn
  go_wp2_with fail
  refine (Cmp_c _ _ _ _ _ _ _ sM sV uM uV).mono ?_; rintro e w11 ⟨rfl, hb⟩
  replace sx := sx.below hb.b
  replace sy := sy.below hb.b
  replace sz := sz.below hb.b
  replace sM := sM.below hb.b
  replace sV := sV.below hb.b
  replace hB := hB.trans (hb.b.mono hB.size)
  clear hb
  rw [cmpI_eq (show val zM = val zV by rw [vM.out, vV.out, hc.out, Nat.mul_zero, Nat.mul_zero])]
  clear sM
  clear sV
  obtain ⟨bc, hbl⟩ : ∃ bc, bc = bl (val zs) := ⟨_, rfl⟩
  obtain rfl : bc = 0 := by rw [hbl, hc.out]; rfl
  have HBL := Lib.hid hbl
  clear hbl
  go_wp2_with fail
  refine (Bits_c _ _ _ _ sz uz (by omega)).mono ?_; rintro e w12 ⟨rfl, rfl⟩
  rw [← HBL.out]
  go_wp2_with fail
  refine (Bits_c _ _ _ _ sz uz (by omega)).mono ?_; rintro e w12 ⟨rfl, rfl⟩
  rw [← HBL.out]
  go_wp2_with fail
  refine (Sub_c _ _ _ _ _ _ _ sy sx uy ux (by omega) (by omega)).mono ?_; rintro e w12 hp
  obtain ⟨adD, cpD, zD, rfl, sD, nD, uD, hv, hb⟩ := hp.sl
  replace sx := sx.below hb
  replace sy := sy.below hb
  replace sz := sz.below hb
  replace hB := hB.trans (hb.mono hB.size)
  clear hb hp
  have mD := Lim.eq (my.le (Nat.sub_le _ _)) hv
  have lD := mD.len nD uD
  have vD := Lib.hid hv
  clear hv
  rw [decide_eq_true (show val xs ≤ val ys by have := hab.out; omega)]
  obtain ⟨bd, hbd⟩ : ∃ bd, bd = bl (val zD) := ⟨_, rfl⟩
  have hdp : ((bd : Int) == 0) = false := by
    have := bl_pos (n := val zD) (by rw [vD.out]; have := hab.out; omega)
    simp; omega
  have HBD := Lib.hid hbd
  clear hbd
  go_wp2_with fail
  refine (Bits_c _ _ _ _ sD uD (by omega)).mono ?_; rintro e w13 ⟨rfl, rfl⟩
  rw [← HBD.out]
  clear sD
  have hk : Blk (w12.alloc (.cells #[.int .u32 1] 52)) w12.heap.size .u32 52 [1] := cells_new .u32 w12 52 [1] #[.int .u32 1] rfl _ rfl
  have sa := hk.sl_full (by simp)
  have hb := (Below.refl w12.heap.size w12).alloc (Nat.le_refl _) (.cells #[.int .u32 1] 52)
  replace sx := sx.below hb
  replace sy := sy.below hb
  replace sz := sz.below hb
  replace hB := hB.trans (hb.mono hB.size)
  clear hb hk
  have ua : U32 [1] := .of_mem (by omega) (by simp)
  have la : ([1] : List Int).length ≤ 1 := by simp
  have ma : Lim 1 (val [1]) := .of_list ua la
  have va : Hid (val [1] = 1) := Lib.hid (by decide)
  go_wp2_with fail
  refine (Add_c _ _ _ _ _ _ _ sx sa ux ua (by omega) (by omega)).mono ?_; rintro e w13 ⟨v1, rfl, hn, hb⟩
  replace sx := sx.below hb
  replace sy := sy.below hb
  replace sz := sz.below hb
  replace sa := sa.below hb
  replace hB := hB.trans (hb.mono hB.size)
  clear hb
  obtain ⟨adI, cpI, zI, rfl, sI, nI, uI, hv⟩ := hn.sl
  have mI := Lim.eq (mx.add ma) hv
  have lI := mI.len nI uI
  have vI := Lib.hid hv
  clear hv
  clear hn
  clear sa
  go_wp2_with fail
  refine (Cmp_c _ _ _ _ _ _ _ sI sx uI ux).mono ?_; rintro e w14 ⟨rfl, hb⟩
  replace sx := sx.below hb.b
  replace sy := sy.below hb.b
  replace sz := sz.below hb.b
  replace sI := sI.below hb.b
  replace hB := hB.trans (hb.b.mono hB.size)
  clear hb
  rw [cmpI_gt (show val xs < val zI by rw [vI.out, va.out]; omega)]
  go_wp2_with fail
  refine (Cmp_c _ _ _ _ _ _ _ sI sy uI uy).mono ?_; rintro e w15 ⟨rfl, hb⟩
  replace sx := sx.below hb.b
  replace sy := sy.below hb.b
  replace sz := sz.below hb.b
  replace sI := sI.below hb.b
  replace hB := hB.trans (hb.b.mono hB.size)
  clear hb
  have hle : cmpI (val zI) (val ys) ≤ 0 := by
    have h1 := vI.out
    rw [va.out] at h1
    have := hab.out
    unfold cmpI; split
    · omega
    · rw [if_neg (by omega)]; omega
  have hrg := cmpI_rng (val zI) (val ys)
  generalize cmpI (val zI) (val ys) = cc at *
  go_wp2_with fail
  go_ret
  exact ⟨rfl, hB⟩

set_option maxHeartbeats 8000000 in
set_option maxRecDepth 100000 in
theorem NatOrder_celp (a a' a'' : Option Addr) (cap cap' cap'' : Nat) (xs ys zs : List Int) (w : World) (sx : Sl .u32 w a cap xs) (sy : Sl .u32 w a' cap' ys) (sz : Sl .u32 w a'' cap'' zs) (ux : U32 xs) (uy : U32 ys) (uz : U32 zs) (hl : xs.length + ys.length + zs.length ≤ 1048576)
    (hab : Hid (val xs = val ys)) (hbc : Hid (val ys < val zs)) (hc : Hid (0 < val zs)) :
    Calls Try.prog 9 #[.slice a xs.length cap, .slice a' ys.length cap', .slice a'' zs.length cap''] w (TruePost w) := by
  have mx : Lim 1048576 (val xs) := .of_list ux (by omega)
  have my : Lim 1048576 (val ys) := .of_list uy (by omega)
  have mz : Lim 1048576 (val zs) := .of_list uz (by omega)
  go_enter Try.func9, Try.ntmps9
  have hB := Below.refl w.heap.size w
  go_wp2_with fail
  refine (alive_c _).mono ?_; rintro e w1 ⟨rfl, hb⟩
  replace sx := sx.below hb
  replace sy := sy.below hb
  replace sz := sz.below hb
  replace hB := hB.trans (hb.mono hB.size)
  clear hb
  go_wp2_with fail
  refine (Cmp_c _ _ _ _ _ _ _ sx sy ux uy).mono ?_; rintro e w2 ⟨rfl, hb⟩
  replace sx := sx.below hb.b
  replace sy := sy.below hb.b
  replace sz := sz.below hb.b
  replace hB := hB.trans (hb.b.mono hB.size)
  clear hb
  rw [cmpI_eq (show val xs = val ys by have := hab.out; have := hbc.out; have := hc.out; omega)]
  go_wp2_with fail
  refine (Cmp_c _ _ _ _ _ _ _ sy sz uy uz).mono ?_; rintro e w3 ⟨rfl, hb⟩
  replace sx := sx.below hb.b
  replace sy := sy.below hb.b
  replace sz := sz.below hb.b
  replace hB := hB.trans (hb.b.mono hB.size)
  clear hb
  rw [cmpI_lt (show val ys < val zs by have := hab.out; have := hbc.out; have := hc.out; omega)]
  go_wp2_with fail
  refine (Cmp_c _ _ _ _ _ _ _ sx sx ux ux).mono ?_; rintro e w4 ⟨rfl, hb⟩
  replace sx := sx.below hb.b
  replace sy := sy.below hb.b
  replace sz := sz.below hb.b
  replace hB := hB.trans (hb.b.mono hB.size)
  clear hb
  rw [cmpI_eq (show val xs = val xs by rfl)]
  go_wp2_with fail
  refine (Cmp_c _ _ _ _ _ _ _ sy sx uy ux).mono ?_; rintro e w5 ⟨rfl, hb⟩
  replace sx := sx.below hb.b
  replace sy := sy.below hb.b
  replace sz := sz.below hb.b
  replace hB := hB.trans (hb.b.mono hB.size)
  clear hb
  rw [cmpI_eq (show val ys = val xs by have := hab.out; have := hbc.out; have := hc.out; omega)]
  go_wp2_with fail
  refine (Cmp_c _ _ _ _ _ _ _ sx sz ux uz).mono ?_; rintro e w6 ⟨rfl, hb⟩
  replace sx := sx.below hb.b
  replace sy := sy.below hb.b
  replace sz := sz.below hb.b
  replace hB := hB.trans (hb.b.mono hB.size)
  clear hb
  rw [cmpI_lt (show val xs < val zs by have := hab.out; have := hbc.out; have := hc.out; omega)]
  go_wp2_with fail
  refine (Add_c _ _ _ _ _ _ _ sx sz ux uz (by omega) (by omega)).mono ?_; rintro e w7 ⟨v1, rfl, hn, hb⟩
  replace sx := sx.below hb
  replace sy := sy.below hb
  replace sz := sz.below hb
  replace hB := hB.trans (hb.mono hB.size)
  clear hb
  obtain ⟨adS, cpS, zS, rfl, sS, nS, uS, hv⟩ := hn.sl
  have mS := Lim.eq (mx.add mz) hv
  have lS := mS.len nS uS
  have vS := Lib.hid hv
  clear hv
  clear hn
  go_wp2_with fail
  refine (Add_c _ _ _ _ _ _ _ sy sz uy uz (by omega) (by omega)).mono ?_; rintro e w8 ⟨v1, rfl, hn, hb⟩
  replace sx := sx.below hb
  replace sy := sy.below hb
  replace sz := sz.below hb
  replace sS := sS.below hb
  replace hB := hB.trans (hb.mono hB.size)
  clear hb
  obtain ⟨adT, cpT, zT, rfl, sT, nT, uT, hv⟩ := hn.sl
  have mT := Lim.eq (my.add mz) hv
  have lT := mT.len nT uT
  have vT := Lib.hid hv
  clear hv
  clear hn
  go_wp2_with fail
  refine (Cmp_c _ _ _ _ _ _ _ sS sT uS uT).mono ?_; rintro e w9 ⟨rfl, hb⟩
  replace sx := sx.below hb.b
  replace sy := sy.below hb.b
  replace sz := sz.below hb.b
  replace sS := sS.below hb.b
  replace sT := sT.below hb.b
  replace hB := hB.trans (hb.b.mono hB.size)
  clear hb
  rw [cmpI_eq (show val zS = val zT by rw [vS.out, vT.out]; have := hab.out; have := hbc.out; have := hc.out; omega)]
  clear sS
  clear sT
  go_wp2_with fail
  refine (Mul_c _ _ _ _ _ _ _ sx sz ux uz (by omega) (by omega)).mono ?_; rintro e w10 ⟨v1, rfl, hn, hb⟩
  replace sx := sx.below hb
  replace sy := sy.below hb
  replace sz := sz.below hb
  replace hB := hB.trans (hb.mono hB.size)
  clear hb
  obtain ⟨adM, cpM, zM, rfl, sM, nM, uM, hv⟩ := hn.sl
  have mM := Lim.eq (mx.mul mz) hv
  have lM := mM.len nM uM
  have vM := Lib.hid hv
  clear hv
  clear hn
  go_wp2_with fail
  refine (Mul_c _ _ _ _ _ _ _ sy sz uy uz (by omega) (by omega)).mono ?_; rintro e w11 ⟨v1, rfl, hn, hb⟩
  replace sx := sx.below hb
  replace sy := sy.below hb
  replace sz := sz.below hb
  replace sM := sM.below hb
  replace hB := hB.trans (hb.mono hB.size)
  clear hb
  obtain ⟨adV, cpV, zV, rfl, sV, nV, uV, hv⟩ := hn.sl
  have mV := Lim.eq (my.mul mz) hv
  have lV := mV.len nV uV
  have vV := Lib.hid hv
  clear hv
  clear hn
  go_wp2_with fail
  refine (Cmp_c _ _ _ _ _ _ _ sM sV uM uV).mono ?_; rintro e w12 ⟨rfl, hb⟩
  replace sx := sx.below hb.b
  replace sy := sy.below hb.b
  replace sz := sz.below hb.b
  replace sM := sM.below hb.b
  replace sV := sV.below hb.b
  replace hB := hB.trans (hb.b.mono hB.size)
  clear hb
  rw [cmpI_eq (show val zM = val zV by rw [vM.out, vV.out, hab.out])]
  clear sM
  clear sV
  obtain ⟨bc, hbl⟩ : ∃ bc, bc = bl (val zs) := ⟨_, rfl⟩
  have hbp : (1 : Int) ≤ (bc : Int) := by have := bl_pos (Nat.pos_iff_ne_zero.1 hc.out); omega
  have hbz : ((bc : Int) == 0) = false := by simp; omega
  have HBL := Lib.hid hbl
  clear hbl
  go_wp2_with fail
  refine (Bits_c _ _ _ _ sz uz (by omega)).mono ?_; rintro e w13 ⟨rfl, rfl⟩
  rw [← HBL.out]
  go_wp2_with fail
  refine (Bits_c _ _ _ _ sz uz (by omega)).mono ?_; rintro e w13 ⟨rfl, rfl⟩
  rw [← HBL.out]
  go_wp2_with fail
  refine (Sub_c _ _ _ _ _ _ _ sy sx uy ux (by omega) (by omega)).mono ?_; rintro e w13 hp
  obtain ⟨adD, cpD, zD, rfl, sD, nD, uD, hv, hb⟩ := hp.sl
  replace sx := sx.below hb
  replace sy := sy.below hb
  replace sz := sz.below hb
  replace hB := hB.trans (hb.mono hB.size)
  clear hb hp
  have mD := Lim.eq (my.le (Nat.sub_le _ _)) hv
  have lD := mD.len nD uD
  have vD := Lib.hid hv
  clear hv
  rw [decide_eq_true (show val xs ≤ val ys by have := hab.out; omega)]
  obtain ⟨bd, hbd⟩ : ∃ bd, bd = bl (val zD) := ⟨_, rfl⟩
  obtain rfl : bd = 0 := by rw [hbd, show val zD = 0 by rw [vD.out]; have := hab.out; omega]; rfl
  have HBD := Lib.hid hbd
  clear hbd
  go_wp2_with fail
  refine (Bits_c _ _ _ _ sD uD (by omega)).mono ?_; rintro e w14 ⟨rfl, rfl⟩
  rw [← HBD.out]
  clear sD
  have hk : Blk (w13.alloc (.cells #[.int .u32 1] 52)) w13.heap.size .u32 52 [1] := cells_new .u32 w13 52 [1] #[.int .u32 1] rfl _ rfl
  have sa := hk.sl_full (by simp)
  have hb := (Below.refl w13.heap.size w13).alloc (Nat.le_refl _) (.cells #[.int .u32 1] 52)
  replace sx := sx.below hb
  replace sy := sy.below hb
  replace sz := sz.below hb
  replace hB := hB.trans (hb.mono hB.size)
  clear hb hk
  have ua : U32 [1] := .of_mem (by omega) (by simp)
  have la : ([1] : List Int).length ≤ 1 := by simp
  have ma : Lim 1 (val [1]) := .of_list ua la
  have va : Hid (val [1] = 1) := Lib.hid (by decide)
  go_wp2_with fail
  refine (Add_c _ _ _ _ _ _ _ sx sa ux ua (by omega) (by omega)).mono ?_; rintro e w14 ⟨v1, rfl, hn, hb⟩
  replace sx := sx.below hb
  replace sy := sy.below hb
  replace sz := sz.below hb
  replace sa := sa.below hb
  replace hB := hB.trans (hb.mono hB.size)
  clear hb
  obtain ⟨adI, cpI, zI, rfl, sI, nI, uI, hv⟩ := hn.sl
  have mI := Lim.eq (mx.add ma) hv
  have lI := mI.len nI uI
  have vI := Lib.hid hv
  clear hv
  clear hn
  clear sa
  go_wp2_with fail
  refine (Cmp_c _ _ _ _ _ _ _ sI sx uI ux).mono ?_; rintro e w15 ⟨rfl, hb⟩
  replace sx := sx.below hb.b
  replace sy := sy.below hb.b
  replace sz := sz.below hb.b
  replace sI := sI.below hb.b
  replace hB := hB.trans (hb.b.mono hB.size)
  clear hb
  rw [cmpI_gt (show val xs < val zI by rw [vI.out, va.out]; omega)]
  go_wp2_with fail
  go_ret
  exact ⟨rfl, hB⟩

set_option maxHeartbeats 8000000 in
set_option maxRecDepth 100000 in
theorem NatOrder_ceep (a a' a'' : Option Addr) (cap cap' cap'' : Nat) (xs ys zs : List Int) (w : World) (sx : Sl .u32 w a cap xs) (sy : Sl .u32 w a' cap' ys) (sz : Sl .u32 w a'' cap'' zs) (ux : U32 xs) (uy : U32 ys) (uz : U32 zs) (hl : xs.length + ys.length + zs.length ≤ 1048576)
    (hab : Hid (val xs = val ys)) (hbc : Hid (val ys = val zs)) (hc : Hid (0 < val zs)) :
    Calls Try.prog 9 #[.slice a xs.length cap, .slice a' ys.length cap', .slice a'' zs.length cap''] w (TruePost w) := by
  have mx : Lim 1048576 (val xs) := .of_list ux (by omega)
  have my : Lim 1048576 (val ys) := .of_list uy (by omega)
  have mz : Lim 1048576 (val zs) := .of_list uz (by omega)
  go_enter Try.func9, Try.ntmps9
  have hB := Below.refl w.heap.size w
  go_wp2_with fail
  refine (alive_c _).mono ?_; rintro e w1 ⟨rfl, hb⟩
  replace sx := sx.below hb
  replace sy := sy.below hb
  replace sz := sz.below hb
  replace hB := hB.trans (hb.mono hB.size)
  clear hb
  go_wp2_with fail
  refine (Cmp_c _ _ _ _ _ _ _ sx sy ux uy).mono ?_; rintro e w2 ⟨rfl, hb⟩
  replace sx := sx.below hb.b
  replace sy := sy.below hb.b
  replace sz := sz.below hb.b
  replace hB := hB.trans (hb.b.mono hB.size)
  clear hb
  rw [cmpI_eq (show val xs = val ys by have := hab.out; have := hbc.out; have := hc.out; omega)]
  go_wp2_with fail
  refine (Cmp_c _ _ _ _ _ _ _ sy sz uy uz).mono ?_; rintro e w3 ⟨rfl, hb⟩
  replace sx := sx.below hb.b
  replace sy := sy.below hb.b
  replace sz := sz.below hb.b
  replace hB := hB.trans (hb.b.mono hB.size)
  clear hb
  rw [cmpI_eq (show val ys = val zs by have := hab.out; have := hbc.out; have := hc.out; omega)]
  go_wp2_with fail
  refine (Cmp_c _ _ _ _ _ _ _ sx sx ux ux).mono ?_; rintro e w4 ⟨rfl, hb⟩
  replace sx := sx.below hb.b
  replace sy := sy.below hb.b
  replace sz := sz.below hb.b
  replace hB := hB.trans (hb.b.mono hB.size)
  clear hb
  rw [cmpI_eq (show val xs = val xs by rfl)]
  go_wp2_with fail
  refine (Cmp_c _ _ _ _ _ _ _ sy sx uy ux).mono ?_; rintro e w5 ⟨rfl, hb⟩
  replace sx := sx.below hb.b
  replace sy := sy.below hb.b
  replace sz := sz.below hb.b
  replace hB := hB.trans (hb.b.mono hB.size)
  clear hb
  rw [cmpI_eq (show val ys = val xs by have := hab.out; have := hbc.out; have := hc.out; omega)]
  go_wp2_with fail
  refine (Cmp_c _ _ _ _ _ _ _ sx sz ux uz).mono ?_; rintro e w6 ⟨rfl, hb⟩
  replace sx := sx.below hb.b
  replace sy := sy.below hb.b
  replace sz := sz.below hb.b
  replace hB := hB.trans (hb.b.mono hB.size)
  clear hb
  rw [cmpI_eq (show val xs = val zs by have := hab.out; have := hbc.out; have := hc.out; omega)]
  go_wp2_with fail
  refine (Add_c _ _ _ _ _ _ _ sx sz ux uz (by omega) (by omega)).mono ?_; rintro e w7 ⟨v1, rfl, hn, hb⟩
  replace sx := sx.below hb
  replace sy := sy.below hb
  replace sz := sz.below hb
  replace hB := hB.trans (hb.mono hB.size)
  clear hb
  obtain ⟨adS, cpS, zS, rfl, sS, nS, uS, hv⟩ := hn.sl
  have mS := Lim.eq (mx.add mz) hv
  have lS := mS.len nS uS
  have vS := Lib.hid hv
  clear hv
  clear hn
  go_wp2_with fail
  refine (Add_c _ _ _ _ _ _ _ sy sz uy uz (by omega) (by omega)).mono ?_; rintro e w8 ⟨v1, rfl, hn, hb⟩
  replace sx := sx.below hb
  replace sy := sy.below hb
  replace sz := sz.below hb
  replace sS := sS.below hb
  replace hB := hB.trans (hb.mono hB.size)
  clear hb
  obtain ⟨adT, cpT, zT, rfl, sT, nT, uT, hv⟩ := hn.sl
  have mT := Lim.eq (my.add mz) hv
  have lT := mT.len nT uT
  have vT := Lib.hid hv
  clear hv
  clear hn
  go_wp2_with fail
  refine (Cmp_c _ _ _ _ _ _ _ sS sT uS uT).mono ?_; rintro e w9 ⟨rfl, hb⟩
  replace sx := sx.below hb.b
  replace sy := sy.below hb.b
  replace sz := sz.below hb.b
  replace sS := sS.below hb.b
  replace sT := sT.below hb.b
  replace hB := hB.trans (hb.b.mono hB.size)
  clear hb
  rw [cmpI_eq (show val zS = val zT by rw [vS.out, vT.out]; have := hab.out; have := hbc.out; have := hc.out; omega)]
  clear sS
  clear sT
  go_wp2_with fail
  refine (Mul_c _ _ _ _ _ _ _ sx sz ux uz (by omega) (by omega)).mono ?_; rintro e w10 ⟨v1, rfl, hn, hb⟩
  replace sx := sx.below hb
  replace sy := sy.below hb
  replace sz := sz.below hb
  replace hB := hB.trans (hb.mono hB.size)
  clear hb
  obtain ⟨adM, cpM, zM, rfl, sM, nM, uM, hv⟩ := hn.sl
  have mM := Lim.eq (mx.mul mz) hv
  have lM := mM.len nM uM
  have vM := Lib.hid hv
  clear hv
  clear hn
  go_wp2_with fail
  refine (Mul_c _ _ _ _ _ _ _ sy sz uy uz (by omega) (by omega)).mono ?_; rintro e w11 ⟨v1, rfl, hn, hb⟩
  replace sx := sx.below hb
  replace sy := sy.below hb
  replace sz := sz.below hb
  replace sM := sM.below hb
  replace hB := hB.trans (hb.mono hB.size)
  clear hb
  obtain ⟨adV, cpV, zV, rfl, sV, nV, uV, hv⟩ := hn.sl
  have mV := Lim.eq (my.mul mz) hv
  have lV := mV.len nV uV
  have vV := Lib.hid hv
  clear hv
  clear hn
  go_wp2_with fail
  refine (Cmp_c _ _ _ _ _ _ _ sM sV uM uV).mono ?_; rintro e w12 ⟨rfl, hb⟩
  replace sx := sx.below hb.b
  replace sy := sy.below hb.b
  replace sz := sz.below hb.b
  replace sM := sM.below hb.b
  replace sV := sV.below hb.b
  replace hB := hB.trans (hb.b.mono hB.size)
  clear hb
  rw [cmpI_eq (show val zM = val zV by rw [vM.out, vV.out, hab.out])]
  clear sM
  clear sV
  obtain ⟨bc, hbl⟩ : ∃ bc, bc = bl (val zs) := ⟨_, rfl⟩
  have hbp : (1 : Int) ≤ (bc : Int) := by have := bl_pos (Nat.pos_iff_ne_zero.1 hc.out); omega
  have hbz : ((bc : Int) == 0) = false := by simp; omega
  have HBL := Lib.hid hbl
  clear hbl
  go_wp2_with fail
  refine (Bits_c _ _ _ _ sz uz (by omega)).mono ?_; rintro e w13 ⟨rfl, rfl⟩
  rw [← HBL.out]
  go_wp2_with fail
  refine (Bits_c _ _ _ _ sz uz (by omega)).mono ?_; rintro e w13 ⟨rfl, rfl⟩
  rw [← HBL.out]
  go_wp2_with fail
  refine (Sub_c _ _ _ _ _ _ _ sy sx uy ux (by omega) (by omega)).mono ?_; rintro e w13 hp
  obtain ⟨adD, cpD, zD, rfl, sD, nD, uD, hv, hb⟩ := hp.sl
  replace sx := sx.below hb
  replace sy := sy.below hb
  replace sz := sz.below hb
  replace hB := hB.trans (hb.mono hB.size)
  clear hb hp
  have mD := Lim.eq (my.le (Nat.sub_le _ _)) hv
  have lD := mD.len nD uD
  have vD := Lib.hid hv
  clear hv
  rw [decide_eq_true (show val xs ≤ val ys by have := hab.out; omega)]
  obtain ⟨bd, hbd⟩ : ∃ bd, bd = bl (val zD) := ⟨_, rfl⟩
  obtain rfl : bd = 0 := by rw [hbd, show val zD = 0 by rw [vD.out]; have := hab.out; omega]; rfl
  have HBD := Lib.hid hbd
  clear hbd
  go_wp2_with fail
  refine (Bits_c _ _ _ _ sD uD (by omega)).mono ?_; rintro e w14 ⟨rfl, rfl⟩
  rw [← HBD.out]
  clear sD
  have hk : Blk (w13.alloc (.cells #[.int .u32 1] 52)) w13.heap.size .u32 52 [1] := cells_new .u32 w13 52 [1] #[.int .u32 1] rfl _ rfl
  have sa := hk.sl_full (by simp)
  have hb := (Below.refl w13.heap.size w13).alloc (Nat.le_refl _) (.cells #[.int .u32 1] 52)
  replace sx := sx.below hb
  replace sy := sy.below hb
  replace sz := sz.below hb
  replace hB := hB.trans (hb.mono hB.size)
  clear hb hk
  have ua : U32 [1] := .of_mem (by omega) (by simp)
  have la : ([1] : List Int).length ≤ 1 := by simp
  have ma : Lim 1 (val [1]) := .of_list ua la
  have va : Hid (val [1] = 1) := Lib.hid (by decide)
  go_wp2_with fail
  refine (Add_c _ _ _ _ _ _ _ sx sa ux ua (by omega) (by omega)).mono ?_; rintro e w14 ⟨v1, rfl, hn, hb⟩
  replace sx := sx.below hb
  replace sy := sy.below hb
  replace sz := sz.below hb
  replace sa := sa.below hb
  replace hB := hB.trans (hb.mono hB.size)
  clear hb
  obtain ⟨adI, cpI, zI, rfl, sI, nI, uI, hv⟩ := hn.sl
  have mI := Lim.eq (mx.add ma) hv
  have lI := mI.len nI uI
  have vI := Lib.hid hv
  clear hv
  clear hn
  clear sa
  go_wp2_with fail
  refine (Cmp_c _ _ _ _ _ _ _ sI sx uI ux).mono ?_; rintro e w15 ⟨rfl, hb⟩
  replace sx := sx.below hb.b
  replace sy := sy.below hb.b
  replace sz := sz.below hb.b
  replace sI := sI.below hb.b
  replace hB := hB.trans (hb.b.mono hB.size)
  clear hb
  rw [cmpI_gt (show val xs < val zI by rw [vI.out, va.out]; omega)]
  go_wp2_with fail
  go_ret
  exact ⟨rfl, hB⟩

set_option maxHeartbeats 8000000 in
set_option maxRecDepth 100000 in
theorem NatOrder_ceez (a a' a'' : Option Addr) (cap cap' cap'' : Nat) (xs ys zs : List Int) (w : World) (sx : Sl .u32 w a cap xs) (sy : Sl .u32 w a' cap' ys) (sz : Sl .u32 w a'' cap'' zs) (ux : U32 xs) (uy : U32 ys) (uz : U32 zs) (hl : xs.length + ys.length + zs.length ≤ 1048576)
    (hab : Hid (val xs = val ys)) (hbc : Hid (val ys = val zs)) (hc : Hid (val zs = 0)) :
    Calls Try.prog 9 #[.slice a xs.length cap, .slice a' ys.length cap', .slice a'' zs.length cap''] w (TruePost w) := by
  have mx : Lim 1048576 (val xs) := .of_list ux (by omega)
  have my : Lim 1048576 (val ys) := .of_list uy (by omega)
  have mz : Lim 1048576 (val zs) := .of_list uz (by omega)
  go_enter Try.func9, Try.ntmps9
  have hB := Below.refl w.heap.size w
  go_wp2_with fail
  refine (alive_c _).mono ?_; rintro e w1 ⟨rfl, hb⟩
  replace sx := sx.below hb
  replace sy := sy.below hb
  replace sz := sz.below hb
  replace hB := hB.trans (hb.mono hB.size)
  clear hb
  go_wp2_with fail
  refine (Cmp_c _ _ _ _ _ _ _ sx sy ux uy).mono ?_; rintro e w2 ⟨rfl, hb⟩
  replace sx := sx.below hb.b
  replace sy := sy.below hb.b
  replace sz := sz.below hb.b
  replace hB := hB.trans (hb.b.mono hB.size)
  clear hb
  rw [cmpI_eq (show val xs = val ys by have := hab.out; have := hbc.out; have := hc.out; omega)]
  go_wp2_with fail
  refine (Cmp_c _ _ _ _ _ _ _ sy sz uy uz).mono ?_; rintro e w3 ⟨rfl, hb⟩
  replace sx := sx.below hb.b
  replace sy := sy.below hb.b
  replace sz := sz.below hb.b
  replace hB := hB.trans (hb.b.mono hB.size)
  clear hb
  rw [cmpI_eq (show val ys = val zs by have := hab.out; have := hbc.out; have := hc.out; omega)]
  go_wp2_with fail
  refine (Cmp_c _ _ _ _ _ _ _ sx sx ux ux).mono ?_; rintro e w4 ⟨rfl, hb⟩
  replace sx := sx.below hb.b
  replace sy := sy.below hb.b
  replace sz := sz.below hb.b
  replace hB := hB.trans (hb.b.mono hB.size)
  clear hb
  rw [cmpI_eq (show val xs = val xs by rfl)]
  go_wp2_with fail
  refine (Cmp_c _ _ _ _ _ _ _ sy sx uy ux).mono ?_; rintro e w5 ⟨rfl, hb⟩
  replace sx := sx.below hb.b
  replace sy := sy.below hb.b
  replace sz := sz.below hb.b
  replace hB := hB.trans (hb.b.mono hB.size)
  clear hb
  rw [cmpI_eq (show val ys = val xs by have := hab.out; have := hbc.out; have := hc.out; omega)]
  go_wp2_with fail
  refine (Cmp_c _ _ _ _ _ _ _ sx sz ux uz).mono ?_; rintro e w6 ⟨rfl, hb⟩
  replace sx := sx.below hb.b
  replace sy := sy.below hb.b
  replace sz := sz.below hb.b
  replace hB := hB.trans (hb.b.mono hB.size)
  clear hb
  rw [cmpI_eq (show val xs = val zs by have := hab.out; have := hbc.out; have := hc.out; omega)]
  go_wp2_with fail
  refine (Add_c _ _ _ _ _ _ _ sx sz ux uz (by omega) (by omega)).mono ?_; rintro e w7 ⟨v1, rfl, hn, hb⟩
  replace sx := sx.below hb
  replace sy := sy.below hb
  replace sz := sz.below hb
  replace hB := hB.trans (hb.mono hB.size)
  clear hb
  obtain ⟨adS, cpS, zS, rfl, sS, nS, uS, hv⟩ := hn.sl
  have mS := Lim.eq (mx.add mz) hv
  have lS := mS.len nS uS
  have vS := Lib.hid hv
  clear hv
  clear hn
  go_wp2_with fail
  refine (Add_c _ _ _ _ _ _ _ sy sz uy uz (by omega) (by omega)).mono ?_; rintro e w8 ⟨v1, rfl, hn, hb⟩
  replace sx := sx.below hb
  replace sy := sy.below hb
  replace sz := sz.below hb
  replace sS := sS.below hb
  replace hB := hB.trans (hb.mono hB.size)
  clear hb
  obtain ⟨adT, cpT, zT, rfl, sT, nT, uT, hv⟩ := hn.sl
  have mT := Lim.eq (my.add mz) hv
  have lT := mT.len nT uT
  have vT := Lib.hid hv
  clear hv
  clear hn
  go_wp2_with fail
  refine (Cmp_c _ _ _ _ _ _ _ sS sT uS uT).mono ?_; rintro e w9 ⟨rfl, hb⟩
  replace sx := sx.below hb.b
  replace sy := sy.below hb.b
  replace sz := sz.below hb.b
  replace sS := sS.below hb.b
  replace sT := sT.below hb.b
  replace hB := hB.trans (hb.b.mono hB.size)
  clear hb
  rw [cmpI_eq (show val zS = val zT by rw [vS.out, vT.out]; have := hab.out; have := hbc.out; have := hc.out; omega)]
  clear sS
  clear sT
  go_wp2_with fail
  refine (Mul_c _ _ _ _ _ _ _ sx sz ux uz (by omega) (by omega)).mono ?_; rintro e w10 ⟨v1, rfl, hn, hb⟩
  replace sx := sx.below hb
  replace sy := sy.below hb
  replace sz := sz.below hb
  replace hB := hB.trans (hb.mono hB.size)
  clear hb
  obtain ⟨adM, cpM, zM, rfl, sM, nM, uM, hv⟩ := hn.sl
  have mM := Lim.eq (mx.mul mz) hv
  have lM := mM.len nM uM
  have vM := Lib.hid hv
  clear hv
  clear hn
  go_wp2_with fail
  refine (Mul_c _ _ _ _ _ _ _ sy sz uy uz (by omega) (by omega)).mono ?_; rintro e w11 ⟨v1, rfl, hn, hb⟩
  replace sx := sx.below hb
  replace sy := sy.below hb
  replace sz := sz.below hb
  replace sM := sM.below hb
  replace hB := hB.trans (hb.mono hB.size)
  clear hb
  obtain ⟨adV, cpV, zV, rfl, sV, nV, uV, hv⟩ := hn.sl
  have mV := Lim.eq (my.mul mz) hv
  have lV := mV.len nV uV
  have vV := Lib.hid hv
  clear hv
  clear hn
  go_wp2_with fail
  refine (Cmp_c _ _ _ _ _ _ _ sM sV uM uV).mono ?_; rintro e w12 ⟨rfl, hb⟩
  replace sx := sx.below hb.b
  replace sy := sy.below hb.b
  replace sz := sz.below hb.b
  replace sM := sM.below hb.b
  replace sV := sV.below hb.b
  replace hB := hB.trans (hb.b.mono hB.size)
  clear hb
  rw [cmpI_eq (show val zM = val zV by rw [vM.out, vV.out, hc.out, Nat.mul_zero, Nat.mul_zero])]
  clear sM
  clear sV
  obtain ⟨bc, hbl⟩ : ∃ bc, bc = bl (val zs) := ⟨_, rfl⟩
  obtain rfl : bc = 0 := by rw [hbl, hc.out]; rfl
  have HBL := Lib.hid hbl
  clear hbl
  go_wp2_with fail
  refine (Bits_c _ _ _ _ sz uz (by omega)).mono ?_; rintro e w13 ⟨rfl, rfl⟩
  rw [← HBL.out]
  go_wp2_with fail
  refine (Bits_c _ _ _ _ sz uz (by omega)).mono ?_; rintro e w13 ⟨rfl, rfl⟩
  rw [← HBL.out]
  go_wp2_with fail
  refine (Sub_c _ _ _ _ _ _ _ sy sx uy ux (by omega) (by omega)).mono ?_; rintro e w13 hp
  obtain ⟨adD, cpD, zD, rfl, sD, nD, uD, hv, hb⟩ := hp.sl
  replace sx := sx.below hb
  replace sy := sy.below hb
  replace sz := sz.below hb
  replace hB := hB.trans (hb.mono hB.size)
  clear hb hp
  have mD := Lim.eq (my.le (Nat.sub_le _ _)) hv
  have lD := mD.len nD uD
  have vD := Lib.hid hv
  clear hv
  rw [decide_eq_true (show val xs ≤ val ys by have := hab.out; omega)]
  obtain ⟨bd, hbd⟩ : ∃ bd, bd = bl (val zD) := ⟨_, rfl⟩
  obtain rfl : bd = 0 := by rw [hbd, show val zD = 0 by rw [vD.out]; have := hab.out; omega]; rfl
  have HBD := Lib.hid hbd
  clear hbd
  go_wp2_with fail
  refine (Bits_c _ _ _ _ sD uD (by omega)).mono ?_; rintro e w14 ⟨rfl, rfl⟩
  rw [← HBD.out]
  clear sD
  have hk : Blk (w13.alloc (.cells #[.int .u32 1] 52)) w13.heap.size .u32 52 [1] := cells_new .u32 w13 52 [1] #[.int .u32 1] rfl _ rfl
  have sa := hk.sl_full (by simp)
  have hb := (Below.refl w13.heap.size w13).alloc (Nat.le_refl _) (.cells #[.int .u32 1] 52)
  replace sx := sx.below hb
  replace sy := sy.below hb
  replace sz := sz.below hb
  replace hB := hB.trans (hb.mono hB.size)
  clear hb hk
  have ua : U32 [1] := .of_mem (by omega) (by simp)
  have la : ([1] : List Int).length ≤ 1 := by simp
  have ma : Lim 1 (val [1]) := .of_list ua la
  have va : Hid (val [1] = 1) := Lib.hid (by decide)
  go_wp2_with fail
  refine (Add_c _ _ _ _ _ _ _ sx sa ux ua (by omega) (by omega)).mono ?_; rintro e w14 ⟨v1, rfl, hn, hb⟩
  replace sx := sx.below hb
  replace sy := sy.below hb
  replace sz := sz.below hb
  replace sa := sa.below hb
  replace hB := hB.trans (hb.mono hB.size)
  clear hb
  obtain ⟨adI, cpI, zI, rfl, sI, nI, uI, hv⟩ := hn.sl
  have mI := Lim.eq (mx.add ma) hv
  have lI := mI.len nI uI
  have vI := Lib.hid hv
  clear hv
  clear hn
  clear sa
  go_wp2_with fail
  refine (Cmp_c _ _ _ _ _ _ _ sI sx uI ux).mono ?_; rintro e w15 ⟨rfl, hb⟩
  replace sx := sx.below hb.b
  replace sy := sy.below hb.b
  replace sz := sz.below hb.b
  replace sI := sI.below hb.b
  replace hB := hB.trans (hb.b.mono hB.size)
  clear hb
  rw [cmpI_gt (show val xs < val zI by rw [vI.out, va.out]; omega)]
  go_wp2_with fail
  go_ret
  exact ⟨rfl, hB⟩

set_option maxHeartbeats 8000000 in
set_option maxRecDepth 100000 in
theorem NatOrder_cegp (a a' a'' : Option Addr) (cap cap' cap'' : Nat) (xs ys zs : List Int) (w : World) (sx : Sl .u32 w a cap xs) (sy : Sl .u32 w a' cap' ys) (sz : Sl .u32 w a'' cap'' zs) (ux : U32 xs) (uy : U32 ys) (uz : U32 zs) (hl : xs.length + ys.length + zs.length ≤ 1048576)
    (hab : Hid (val xs = val ys)) (hbc : Hid (val zs < val ys)) (hc : Hid (0 < val zs)) :
    Calls Try.prog 9 #[.slice a xs.length cap, .slice a' ys.length cap', .slice a'' zs.length cap''] w (TruePost w) := by
  have mx : Lim 1048576 (val xs) := .of_list ux (by omega)
  have my : Lim 1048576 (val ys) := .of_list uy (by omega)
  have mz : Lim 1048576 (val zs) := .of_list uz (by omega)
  go_enter Try.func9, Try.ntmps9
  have hB := Below.refl w.heap.size w
  go_wp2_with fail
  refine (alive_c _).mono ?_; rintro e w1 ⟨rfl, hb⟩
  replace sx := sx.below hb
  replace sy := sy.below hb
  replace sz := sz.below hb
  replace hB := hB.trans (hb.mono hB.size)
  clear hb
  go_wp2_with fail
  refine (Cmp_c _ _ _ _ _ _ _ sx sy ux uy).mono ?_; rintro e w2 ⟨rfl, hb⟩
  replace sx := sx.below hb.b
  replace sy := sy.below hb.b
  replace sz := sz.below hb.b
  replace hB := hB.trans (hb.b.mono hB.size)
  clear hb
  rw [cmpI_eq (show val xs = val ys by have := hab.out; have := hbc.out; have := hc.out; omega)]
  go_wp2_with fail
  refine (Cmp_c _ _ _ _ _ _ _ sy sz uy uz).mono ?_; rintro e w3 ⟨rfl, hb⟩
  replace sx := sx.below hb.b
  replace sy := sy.below hb.b
  replace sz := sz.below hb.b
  replace hB := hB.trans (hb.b.mono hB.size)
  clear hb
  rw [cmpI_gt (show val zs < val ys by have := hab.out; have := hbc.out; have := hc.out; omega)]
  go_wp2_with fail
  refine (Cmp_c _ _ _ _ _ _ _ sx sx ux ux).mono ?_; rintro e w4 ⟨rfl, hb⟩
  replace sx := sx.below hb.b
  replace sy := sy.below hb.b
  replace sz := sz.below hb.b
  replace hB := hB.trans (hb.b.mono hB.size)
  clear hb
  rw [cmpI_eq (show val xs = val xs by rfl)]
  go_wp2_with fail
  refine (Cmp_c _ _ _ _ _ _ _ sy sx uy ux).mono ?_; rintro e w5 ⟨rfl, hb⟩
  replace sx := sx.below hb.b
  replace sy := sy.below hb.b
  replace sz := sz.below hb.b
  replace hB := hB.trans (hb.b.mono hB.size)
  clear hb
  rw [cmpI_eq (show val ys = val xs by have := hab.out; have := hbc.out; have := hc.out; omega)]
  go_wp2_with fail
  refine (Add_c _ _ _ _ _ _ _ sx sz ux uz (by omega) (by omega)).mono ?_; rintro e w6 ⟨v1, rfl, hn, hb⟩
  replace sx := sx.below hb
  replace sy := sy.below hb
  replace sz := sz.below hb
  replace hB := hB.trans (hb.mono hB.size)
  clear hb
  obtain ⟨adS, cpS, zS, rfl, sS, nS, uS, hv⟩ := hn.sl
  have mS := Lim.eq (mx.add mz) hv
  have lS := mS.len nS uS
  have vS := Lib.hid hv
  clear hv
  clear hn
  go_wp2_with fail
  refine (Add_c _ _ _ _ _ _ _ sy sz uy uz (by omega) (by omega)).mono ?_; rintro e w7 ⟨v1, rfl, hn, hb⟩
  replace sx := sx.below hb
  replace sy := sy.below hb
  replace sz := sz.below hb
  replace sS := sS.below hb
  replace hB := hB.trans (hb.mono hB.size)
  clear hb
  obtain ⟨adT, cpT, zT, rfl, sT, nT, uT, hv⟩ := hn.sl
  have mT := Lim.eq (my.add mz) hv
  have lT := mT.len nT uT
  have vT := Lib.hid hv
  clear hv
  clear hn
  go_wp2_with fail
  refine (Cmp_c _ _ _ _ _ _ _ sS sT uS uT).mono ?_; rintro e w8 ⟨rfl, hb⟩
  replace sx := sx.below hb.b
  replace sy := sy.below hb.b
  replace sz := sz.below hb.b
  replace sS := sS.below hb.b
  replace sT := sT.below hb.b
  replace hB := hB.trans (hb.b.mono hB.size)
  clear hb
  rw [cmpI_eq (show val zS = val zT by rw [vS.out, vT.out]; have := hab.out; have := hbc.out; have := hc.out; omega)]
  clear sS
  clear sT
  go_wp2_with fail
  refine (Mul_c _ _ _ _ _ _ _ sx sz ux uz (by omega) (by omega)).mono ?_; rintro e w9 ⟨v1, rfl, hn, hb⟩
  replace sx := sx.below hb
  replace sy := sy.below hb
  replace sz := sz.below hb
  replace hB := hB.trans (hb.mono hB.size)
  clear hb
  obtain ⟨adM, cpM, zM, rfl, sM, nM, uM, hv⟩ := hn.sl
  have mM := Lim.eq (mx.mul mz) hv
  have lM := mM.len nM uM
  have vM := Lib.hid hv
  clear hv
  clear hn
  go_wp2_with fail
  refine (Mul_c _ _ _ _ _ _ _ sy sz uy uz (by omega) (by omega)).mono ?_; rintro e w10 ⟨v1, rfl, hn, hb⟩
  replace sx := sx.below hb
  replace sy := sy.below hb
  replace sz := sz.below hb
  replace sM := sM.below hb
  replace hB := hB.trans (hb.mono hB.size)
  clear hb
  obtain ⟨adV, cpV, zV, rfl, sV, nV, uV, hv⟩ := hn.sl
  have mV := Lim.eq (my.mul mz) hv
  have lV := mV.len nV uV
  have vV := Lib.hid hv
  clear hv
  clear hn
  go_wp2_with fail
  refine (Cmp_c _ _ _ _ _ _ _ sM sV uM uV).mono ?_; rintro e w11 ⟨rfl, hb⟩
  replace sx := sx.below hb.b
  replace sy := sy.below hb.b
  replace sz := sz.below hb.b
  replace sM := sM.below hb.b
  replace sV := sV.below hb.b
  replace hB := hB.trans (hb.b.mono hB.size)
  clear hb
  rw [cmpI_eq (show val zM = val zV by rw [vM.out, vV.out, hab.out])]
  clear sM
  clear sV
  obtain ⟨bc, hbl⟩ : ∃ bc, bc = bl (val zs) := ⟨_, rfl⟩
  have hbp : (1 : Int) ≤ (bc : Int) := by have := bl_pos (Nat.pos_iff_ne_zero.1 hc.out); omega
  have hbz : ((bc : Int) == 0) = false := by simp; omega
  have HBL := Lib.hid hbl
  clear hbl
  go_wp2_with fail
  refine (Bits_c _ _ _ _ sz uz (by omega)).mono ?_; rintro e w12 ⟨rfl, rfl⟩
  rw [← HBL.out]
  go_wp2_with fail
  refine (Bits_c _ _ _ _ sz uz (by omega)).mono ?_; rintro e w12 ⟨rfl, rfl⟩
  rw [← HBL.out]
  go_wp2_with fail
  refine (Sub_c _ _ _ _ _ _ _ sy sx uy ux (by omega) (by omega)).mono ?_; rintro e w12 hp
  obtain ⟨adD, cpD, zD, rfl, sD, nD, uD, hv, hb⟩ := hp.sl
  replace sx := sx.below hb
  replace sy := sy.below hb
  replace sz := sz.below hb
  replace hB := hB.trans (hb.mono hB.size)
  clear hb hp
  have mD := Lim.eq (my.le (Nat.sub_le _ _)) hv
  have lD := mD.len nD uD
  have vD := Lib.hid hv
  clear hv
  rw [decide_eq_true (show val xs ≤ val ys by have := hab.out; omega)]
  obtain ⟨bd, hbd⟩ : ∃ bd, bd = bl (val zD) := ⟨_, rfl⟩
  obtain rfl : bd = 0 := by rw [hbd, show val zD = 0 by rw [vD.out]; have := hab.out; omega]; rfl
  have HBD := Lib.hid hbd
  clear hbd
  go_wp2_with fail
  refine (Bits_c _ _ _ _ sD uD (by omega)).mono ?_; rintro e w13 ⟨rfl, rfl⟩
  rw [← HBD.out]
  clear sD
  have hk : Blk (w12.alloc (.cells #[.int .u32 1] 52)) w12.heap.size .u32 52 [1] := cells_new .u32 w12 52 [1] #[.int .u32 1] rfl _ rfl
  have sa := hk.sl_full (by simp)
  have hb := (Below.refl w12.heap.size w12).alloc (Nat.le_refl _) (.cells #[.int .u32 1] 52)
  replace sx := sx.below hb
  replace sy := sy.below hb
  replace sz := sz.below hb
  replace hB := hB.trans (hb.mono hB.size)
  clear hb hk
  have ua : U32 [1] := .of_mem (by omega) (by simp)
  have la : ([1] : List Int).length ≤ 1 := by simp
  have ma : Lim 1 (val [1]) := .of_list ua la
  have va : Hid (val [1] = 1) := Lib.hid (by decide)
  go_wp2_with fail
  refine (Add_c _ _ _ _ _ _ _ sx sa ux ua (by omega) (by omega)).mono ?_; rintro e w13 ⟨v1, rfl, hn, hb⟩
  replace sx := sx.below hb
  replace sy := sy.below hb
  replace sz := sz.below hb
  replace sa := sa.below hb
  replace hB := hB.trans (hb.mono hB.size)
  clear hb
  obtain ⟨adI, cpI, zI, rfl, sI, nI, uI, hv⟩ := hn.sl
  have mI := Lim.eq (mx.add ma) hv
  have lI := mI.len nI uI
  have vI := Lib.hid hv
  clear hv
  clear hn
  clear sa
  go_wp2_with fail
  refine (Cmp_c _ _ _ _ _ _ _ sI sx uI ux).mono ?_; rintro e w14 ⟨rfl, hb⟩
  replace sx := sx.below hb.b
  replace sy := sy.below hb.b
  replace sz := sz.below hb.b
  replace sI := sI.below hb.b
  replace hB := hB.trans (hb.b.mono hB.size)
  clear hb
  rw [cmpI_gt (show val xs < val zI by rw [vI.out, va.out]; omega)]
  go_wp2_with fail
  go_ret
  exact ⟨rfl, hB⟩

set_option maxHeartbeats 8000000 in
set_option maxRecDepth 100000 in
theorem NatOrder_cegz (a a' a'' : Option Addr) (cap cap' cap'' : Nat) (xs ys zs : List Int) (w : World) (sx : Sl .u32 w a cap xs) (sy : Sl .u32 w a' cap' ys) (sz : Sl .u32 w a'' cap'' zs) (ux : U32 xs) (uy : U32 ys) (uz : U32 zs) (hl : xs.length + ys.length + zs.length ≤ 1048576)
    (hab : Hid (val xs = val ys)) (hbc : Hid (val zs < val ys)) (hc : Hid (val zs = 0)) :
    Calls Try.prog 9 #[.slice a xs.length cap, .slice a' ys.length cap', .slice a'' zs.length cap''] w (TruePost w) := by
  have mx : Lim 1048576 (val xs) := .of_list ux (by omega)
  have my : Lim 1048576 (val ys) := .of_list uy (by omega)
  have mz : Lim 1048576 (val zs) := .of_list uz (by omega)
  go_enter Try.func9, Try.ntmps9
  have hB := Below.refl w.heap.size w
  go_wp2_with fail
  refine (alive_c _).mono ?_; rintro e w1 ⟨rfl, hb⟩
  replace sx := sx.below hb
  replace sy := sy.below hb
  replace sz := sz.below hb
  replace hB := hB.trans (hb.mono hB.size)
  clear hb
  go_wp2_with fail
  refine (Cmp_c _ _ _ _ _ _ _ sx sy ux uy).mono ?_; rintro e w2 ⟨rfl, hb⟩
  replace sx := sx.below hb.b
  replace sy := sy.below hb.b
  replace sz := sz.below hb.b
  replace hB := hB.trans (hb.b.mono hB.size)
  clear hb
  rw [cmpI_eq (show val xs = val ys by have := hab.out; have := hbc.out; have := hc.out; omega)]
  go_wp2_with fail
  refine (Cmp_c _ _ _ _ _ _ _ sy sz uy uz).mono ?_; rintro e w3 ⟨rfl, hb⟩
  replace sx := sx.below hb.b
  replace sy := sy.below hb.b
  replace sz := sz.below hb.b
  replace hB := hB.trans (hb.b.mono hB.size)
  clear hb
  rw [cmpI_gt (show val zs < val ys by have := hab.out; have := hbc.out; have := hc.out; omega)]
  go_wp2_with fail
  refine (Cmp_c _ _ _ _ _ _ _ sx sx ux ux).mono ?_; rintro e w4 ⟨rfl, hb⟩
  replace sx := sx.below hb.b
  replace sy := sy.below hb.b
  replace sz := sz.below hb.b
  replace hB := hB.trans (hb.b.mono hB.size)
  clear hb
  rw [cmpI_eq (show val xs = val xs by rfl)]
  go_wp2_with fail
  refine (Cmp_c _ _ _ _ _ _ _ sy sx uy ux).mono ?_; rintro e w5 ⟨rfl, hb⟩
  replace sx := sx.below hb.b
  replace sy := sy.below hb.b
  replace sz := sz.below hb.b
  replace hB := hB.trans (hb.b.mono hB.size)
  clear hb
  rw [cmpI_eq (show val ys = val xs by have := hab.out; have := hbc.out; have := hc.out; omega)]
  go_wp2_with fail
  refine (Add_c _ _ _ _ _ _ _ sx sz ux uz (by omega) (by omega)).mono ?_; rintro e w6 ⟨v1, rfl, hn, hb⟩
  replace sx := sx.below hb
  replace sy := sy.below hb
  replace sz := sz.below hb
  replace hB := hB.trans (hb.mono hB.size)
  clear hb
  obtain ⟨adS, cpS, zS, rfl, sS, nS, uS, hv⟩ := hn.sl
  have mS := Lim.eq (mx.add mz) hv
  have lS := mS.len nS uS
  have vS := Lib.hid hv
  clear hv
  clear hn
  go_wp2_with fail
  refine (Add_c _ _ _ _ _ _ _ sy sz uy uz (by omega) (by omega)).mono ?_; rintro e w7 ⟨v1, rfl, hn, hb⟩
  replace sx := sx.below hb
  replace sy := sy.below hb
  replace sz := sz.below hb
  replace sS := sS.below hb
  replace hB := hB.trans (hb.mono hB.size)
  clear hb
  obtain ⟨adT, cpT, zT, rfl, sT, nT, uT, hv⟩ := hn.sl
  have mT := Lim.eq (my.add mz) hv
  have lT := mT.len nT uT
  have vT := Lib.hid hv
  clear hv
  clear hn
  go_wp2_with fail
  refine (Cmp_c _ _ _ _ _ _ _ sS sT uS uT).mono ?_; rintro e w8 ⟨rfl, hb⟩
  replace sx := sx.below hb.b
  replace sy := sy.below hb.b
  replace sz := sz.below hb.b
  replace sS := sS.below hb.b
  replace sT := sT.below hb.b
  replace hB := hB.trans (hb.b.mono hB.size)
  clear hb
  rw [cmpI_eq (show val zS = val zT by rw [vS.out, vT.out]; have := hab.out; have := hbc.out; have := hc.out; omega)]
  clear sS
  clear sT
  go_wp2_with fail
  refine (Mul_c _ _ _ _ _ _ _ sx sz ux uz (by omega) (by omega)).mono ?_; rintro e w9 ⟨v1, rfl, hn, hb⟩
  replace sx := sx.below hb
  replace sy := sy.below hb
  replace sz := sz.below hb
  replace hB := hB.trans (hb.mono hB.size)
  clear hb
  obtain ⟨adM, cpM, zM, rfl, sM, nM, uM, hv⟩ := hn.sl
  have mM := Lim.eq (mx.mul mz) hv
  have lM := mM.len nM uM
  have vM := Lib.hid hv
  clear hv
  clear hn
  go_wp2_with fail
  refine (Mul_c _ _ _ _ _ _ _ sy sz uy uz (by omega) (by omega)).mono ?_; rintro e w10 ⟨v1, rfl, hn, hb⟩
  replace sx := sx.below hb
  replace sy := sy.below hb
  replace sz := sz.below hb
  replace sM := sM.below hb
  replace hB := hB.trans (hb.mono hB.size)
  clear hb
  obtain ⟨adV, cpV, zV, rfl, sV, nV, uV, hv⟩ := hn.sl
  have mV := Lim.eq (my.mul mz) hv
  have lV := mV.len nV uV
  have vV := Lib.hid hv
  clear hv
  clear hn
  go_wp2_with fail
  refine (Cmp_c _ _ _ _ _ _ _ sM sV uM uV).mono ?_; rintro e w11 ⟨rfl, hb⟩
  replace sx := sx.below hb.b
  replace sy := sy.below hb.b
  replace sz := sz.below hb.b
  replace sM := sM.below hb.b
  replace sV := sV.below hb.b
  replace hB := hB.trans (hb.b.mono hB.size)
  clear hb
  rw [cmpI_eq (show val zM = val zV by rw [vM.out, vV.out, hc.out, Nat.mul_zero, Nat.mul_zero])]
  clear sM
  clear sV
  obtain ⟨bc, hbl⟩ : ∃ bc, bc = bl (val zs) := ⟨_, rfl⟩
  obtain rfl : bc = 0 := by rw [hbl, hc.out]; rfl
  have HBL := Lib.hid hbl
  clear hbl
  go_wp2_with fail
  refine (Bits_c _ _ _ _ sz uz (by omega)).mono ?_; rintro e w12 ⟨rfl, rfl⟩
  rw [← HBL.out]
  go_wp2_with fail
  refine (Bits_c _ _ _ _ sz uz (by omega)).mono ?_; rintro e w12 ⟨rfl, rfl⟩
  rw [← HBL.out]
  go_wp2_with fail
  refine (Sub_c _ _ _ _ _ _ _ sy sx uy ux (by omega) (by omega)).mono ?_; rintro e w12 hp
  obtain ⟨adD, cpD, zD, rfl, sD, nD, uD, hv, hb⟩ := hp.sl
  replace sx := sx.below hb
  replace sy := sy.below hb
  replace sz := sz.below hb
  replace hB := hB.trans (hb.mono hB.size)
  clear hb hp
  have mD := Lim.eq (my.le (Nat.sub_le _ _)) hv
  have lD := mD.len nD uD
  have vD := Lib.hid hv
  clear hv
  rw [decide_eq_true (show val xs ≤ val ys by have := hab.out; omega)]
  obtain ⟨bd, hbd⟩ : ∃ bd, bd = bl (val zD) := ⟨_, rfl⟩
  obtain rfl : bd = 0 := by rw [hbd, show val zD = 0 by rw [vD.out]; have := hab.out; omega]; rfl
  have HBD := Lib.hid hbd
  clear hbd
  go_wp2_with fail
  refine (Bits_c _ _ _ _ sD uD (by omega)).mono ?_; rintro e w13 ⟨rfl, rfl⟩
  rw [← HBD.out]
  clear sD
  have hk : Blk (w12.alloc (.cells #[.int .u32 1] 52)) w12.heap.size .u32 52 [1] := cells_new .u32 w12 52 [1] #[.int .u32 1] rfl _ rfl
  have sa := hk.sl_full (by simp)
  have hb := (Below.refl w12.heap.size w12).alloc (Nat.le_refl _) (.cells #[.int .u32 1] 52)
  replace sx := sx.below hb
  replace sy := sy.below hb
  replace sz := sz.below hb
  replace hB := hB.trans (hb.mono hB.size)
  clear hb hk
  have ua : U32 [1] := .of_mem (by omega) (by simp)
  have la : ([1] : List Int).length ≤ 1 := by simp
  have ma : Lim 1 (val [1]) := .of_list ua la
  have va : Hid (val [1] = 1) := Lib.hid (by decide)
  go_wp2_with fail
  refine (Add_c _ _ _ _ _ _ _ sx sa ux ua (by omega) (by omega)).mono ?_; rintro e w13 ⟨v1, rfl, hn, hb⟩
  replace sx := sx.below hb
  replace sy := sy.below hb
  replace sz := sz.below hb
  replace sa := sa.below hb
  replace hB := hB.trans (hb.mono hB.size)
  clear hb
  obtain ⟨adI, cpI, zI, rfl, sI, nI, uI, hv⟩ := hn.sl
  have mI := Lim.eq (mx.add ma) hv
  have lI := mI.len nI uI
  have vI := Lib.hid hv
  clear hv
  clear hn
  clear sa
  go_wp2_with fail
  refine (Cmp_c _ _ _ _ _ _ _ sI sx uI ux).mono ?_; rintro e w14 ⟨rfl, hb⟩
  replace sx := sx.below hb.b
  replace sy := sy.below hb.b
  replace sz := sz.below hb.b
  replace sI := sI.below hb.b
  replace hB := hB.trans (hb.b.mono hB.size)
  clear hb
  rw [cmpI_gt (show val xs < val zI by rw [vI.out, va.out]; omega)]
  go_wp2_with fail
  go_ret
  exact ⟨rfl, hB⟩

set_option maxHeartbeats 8000000 in
set_option maxRecDepth 100000 in
theorem NatOrder_cglp (a a' a'' : Option Addr) (cap cap' cap'' : Nat) (xs ys zs : List Int) (w : World) (sx : Sl .u32 w a cap xs) (sy : Sl .u32 w a' cap' ys) (sz : Sl .u32 w a'' cap'' zs) (ux : U32 xs) (uy : U32 ys) (uz : U32 zs) (hl : xs.length + ys.length + zs.length ≤ 1048576)
    (hab : Hid (val ys < val xs)) (hbc : Hid (val ys < val zs)) (hc : Hid (0 < val zs)) :
    Calls Try.prog 9 #[.slice a xs.length cap, .slice a' ys.length cap', .slice a'' zs.length cap''] w (TruePost w) := by
  have mx : Lim 1048576 (val xs) := .of_list ux (by omega)
  have my : Lim 1048576 (val ys) := .of_list uy (by omega)
  have mz : Lim 1048576 (val zs) := .of_list uz (by omega)
  go_enter Try.func9, Try.ntmps9
  have hB := Below.refl w.heap.size w
  go_wp2_with fail
  refine (alive_c _).mono ?_; rintro e w1 ⟨rfl, hb⟩
  replace sx := sx.below hb
  replace sy := sy.below hb
  replace sz := sz.below hb
  replace hB := hB.trans (hb.mono hB.size)
  clear hb
  go_wp2_with fail
  refine (Cmp_c _ _ _ _ _ _ _ sx sy ux uy).mono ?_; rintro e w2 ⟨rfl, hb⟩
  replace sx := sx.below hb.b
  replace sy := sy.below hb.b
  replace sz := sz.below hb.b
  replace hB := hB.trans (hb.b.mono hB.size)
  clear hb
  rw [cmpI_gt (show val ys < val xs by have := hab.out; have := hbc.out; have := hc.out; omega)]
  go_wp2_with fail
  refine (Cmp_c _ _ _ _ _ _ _ sy sz uy uz).mono ?_; rintro e w3 ⟨rfl, hb⟩
  replace sx := sx.below hb.b
  replace sy := sy.below hb.b
  replace sz := sz.below hb.b
  replace hB := hB.trans (hb.b.mono hB.size)
  clear hb
  rw [cmpI_lt (show val ys < val zs by have := hab.out; have := hbc.out; have := hc.out; omega)]
  go_wp2_with fail
  refine (Cmp_c _ _ _ _ _ _ _ sx sx ux ux).mono ?_; rintro e w4 ⟨rfl, hb⟩
  replace sx := sx.below hb.b
  replace sy := sy.below hb.b
  replace sz := sz.below hb.b
  replace hB := hB.trans (hb.b.mono hB.size)
  clear hb
  rw [cmpI_eq (show val xs = val xs by rfl)]
  go_wp2_with fail
  refine (Cmp_c _ _ _ _ _ _ _ sy sx uy ux).mono ?_; rintro e w5 ⟨rfl, hb⟩
  replace sx := sx.below hb.b
  replace sy := sy.below hb.b
  replace sz := sz.below hb.b
  replace hB := hB.trans (hb.b.mono hB.size)
  clear hb
  rw [cmpI_lt (show val ys < val xs by have := hab.out; have := hbc.out; have := hc.out; omega)]
  go_wp2_with fail
  refine (Add_c _ _ _ _ _ _ _ sx sz ux uz (by omega) (by omega)).mono ?_; rintro e w6 ⟨v1, rfl, hn, hb⟩
  replace sx := sx.below hb
  replace sy := sy.below hb
  replace sz := sz.below hb
  replace hB := hB.trans (hb.mono hB.size)
  clear hb
  obtain ⟨adS, cpS, zS, rfl, sS, nS, uS, hv⟩ := hn.sl
  have mS := Lim.eq (mx.add mz) hv
  have lS := mS.len nS uS
  have vS := Lib.hid hv
  clear hv
  clear hn
  go_wp2_with fail
  refine (Add_c _ _ _ _ _ _ _ sy sz uy uz (by omega) (by omega)).mono ?_; rintro e w7 ⟨v1, rfl, hn, hb⟩
  replace sx := sx.below hb
  replace sy := sy.below hb
  replace sz := sz.below hb
  replace sS := sS.below hb
  replace hB := hB.trans (hb.mono hB.size)
  clear hb
  obtain ⟨adT, cpT, zT, rfl, sT, nT, uT, hv⟩ := hn.sl
  have mT := Lim.eq (my.add mz) hv
  have lT := mT.len nT uT
  have vT := Lib.hid hv
  clear hv
  clear hn
  go_wp2_with fail
  refine (Cmp_c _ _ _ _ _ _ _ sS sT uS uT).mono ?_; rintro e w8 ⟨rfl, hb⟩
  replace sx := sx.below hb.b
  replace sy := sy.below hb.b
  replace sz := sz.below hb.b
  replace sS := sS.below hb.b
  replace sT := sT.below hb.b
  replace hB := hB.trans (hb.b.mono hB.size)
  clear hb
  rw [cmpI_gt (show val zT < val zS by rw [vS.out, vT.out]; have := hab.out; have := hbc.out; have := hc.out; omega)]
  clear sS
  clear sT
  go_wp2_with fail
  refine (Mul_c _ _ _ _ _ _ _ sx sz ux uz (by omega) (by omega)).mono ?_; rintro e w9 ⟨v1, rfl, hn, hb⟩
  replace sx := sx.below hb
  replace sy := sy.below hb
  replace sz := sz.below hb
  replace hB := hB.trans (hb.mono hB.size)
  clear hb
  obtain ⟨adM, cpM, zM, rfl, sM, nM, uM, hv⟩ := hn.sl
  have mM := Lim.eq (mx.mul mz) hv
  have lM := mM.len nM uM
  have vM := Lib.hid hv
  clear hv
  clear hn
  go_wp2_with fail
  refine (Mul_c _ _ _ _ _ _ _ sy sz uy uz (by omega) (by omega)).mono ?_; rintro e w10 ⟨v1, rfl, hn, hb⟩
  replace sx := sx.below hb
  replace sy := sy.below hb
  replace sz := sz.below hb
  replace sM := sM.below hb
  replace hB := hB.trans (hb.mono hB.size)
  clear hb
  obtain ⟨adV, cpV, zV, rfl, sV, nV, uV, hv⟩ := hn.sl
  have mV := Lim.eq (my.mul mz) hv
  have lV := mV.len nV uV
  have vV := Lib.hid hv
  clear hv
  clear hn
  go_wp2_with fail
  refine (Cmp_c _ _ _ _ _ _ _ sM sV uM uV).mono ?_; rintro e w11 ⟨rfl, hb⟩
  replace sx := sx.below hb.b
  replace sy := sy.below hb.b
  replace sz := sz.below hb.b
  replace sM := sM.below hb.b
  replace sV := sV.below hb.b
  replace hB := hB.trans (hb.b.mono hB.size)
  clear hb
  rw [cmpI_gt (show val zV < val zM by rw [vM.out, vV.out]; exact Nat.mul_lt_mul_of_pos_right hab.out hc.out)]
  clear sM
  clear sV
  obtain ⟨bc, hbl⟩ : ∃ bc, bc = bl (val zs) := ⟨_, rfl⟩
  have hbp : (1 : Int) ≤ (bc : Int) := by have := bl_pos (Nat.pos_iff_ne_zero.1 hc.out); omega
  have hbz : ((bc : Int) == 0) = false := by simp; omega
  have HBL := Lib.hid hbl
  clear hbl
  go_wp2_with fail
  refine (Bits_c _ _ _ _ sz uz (by omega)).mono ?_; rintro e w12 ⟨rfl, rfl⟩
  rw [← HBL.out]
  go_wp2_with fail
  refine (Bits_c _ _ _ _ sz uz (by omega)).mono ?_; rintro e w12 ⟨rfl, rfl⟩
  rw [← HBL.out]
  go_wp2_with fail
  refine (Sub_c _ _ _ _ _ _ _ sy sx uy ux (by omega) (by omega)).mono ?_; rintro e w12 hp
  obtain ⟨adD, cpD, zD, rfl, sD, nD, uD, hv, hb⟩ := hp.sl
  replace sx := sx.below hb
  replace sy := sy.below hb
  replace sz := sz.below hb
  replace hB := hB.trans (hb.mono hB.size)
  clear hb hp
  have mD := Lim.eq (my.le (Nat.sub_le _ _)) hv
  have lD := mD.len nD uD
  have vD := Lib.hid hv
  clear hv
  rw [decide_eq_false (show ¬ val xs ≤ val ys by have := hab.out; omega)]
  clear sD
  have hk : Blk (w12.alloc (.cells #[.int .u32 1] 52)) w12.heap.size .u32 52 [1] := cells_new .u32 w12 52 [1] #[.int .u32 1] rfl _ rfl
  have sa := hk.sl_full (by simp)
  have hb := (Below.refl w12.heap.size w12).alloc (Nat.le_refl _) (.cells #[.int .u32 1] 52)
  replace sx := sx.below hb
  replace sy := sy.below hb
  replace sz := sz.below hb
  replace hB := hB.trans (hb.mono hB.size)
  clear hb hk
  have ua : U32 [1] := .of_mem (by omega) (by simp)
  have la : ([1] : List Int).length ≤ 1 := by simp
  have ma : Lim 1 (val [1]) := .of_list ua la
  have va : Hid (val [1] = 1) := Lib.hid (by decide)
  go_wp2_with fail
  refine (Add_c _ _ _ _ _ _ _ sx sa ux ua (by omega) (by omega)).mono ?_; rintro e w13 ⟨v1, rfl, hn, hb⟩
  replace sx := sx.below hb
  replace sy := sy.below hb
  replace sz := sz.below hb
  replace sa := sa.below hb
  replace hB := hB.trans (hb.mono hB.size)
  clear hb
  obtain ⟨adI, cpI, zI, rfl, sI, nI, uI, hv⟩ := hn.sl
  have mI := Lim.eq (mx.add ma) hv
  have lI := mI.len nI uI
  have vI := Lib.hid hv
  clear hv
  clear hn
  clear sa
  go_wp2_with fail
  refine (Cmp_c _ _ _ _ _ _ _ sI sx uI ux).mono ?_; rintro e w14 ⟨rfl, hb⟩
  replace sx := sx.below hb.b
  replace sy := sy.below hb.b
  replace sz := sz.below hb.b
  replace sI := sI.below hb.b
  replace hB := hB.trans (hb.b.mono hB.size)
  clear hb
  rw [cmpI_gt (show val xs < val zI by rw [vI.out, va.out]; omega)]
  go_wp2_with fail
  go_ret
  exact ⟨rfl, hB⟩

set_option maxHeartbeats 8000000 in
set_option maxRecDepth 100000 in
theorem NatOrder_cgep (a a' a'' : Option Addr) (cap cap' cap'' : Nat) (xs ys zs : List Int) (w : World) (sx : Sl .u32 w a cap xs) (sy : Sl .u32 w a' cap' ys) (sz : Sl .u32 w a'' cap'' zs) (ux : U32 xs) (uy : U32 ys) (uz : U32 zs) (hl : xs.length + ys.length + zs.length ≤ 1048576)
    (hab : Hid (val ys < val xs)) (hbc : Hid (val ys = val zs)) (hc : Hid (0 < val zs)) :
    Calls Try.prog 9 #[.slice a xs.length cap, .slice a' ys.length cap', .slice a'' zs.length cap''] w (TruePost w) := by
  have mx : Lim 1048576 (val xs) := .of_list ux (by omega)
  have my : Lim 1048576 (val ys) := .of_list uy (by omega)
  have mz : Lim 1048576 (val zs) := .of_list uz (by omega)
  go_enter Try.func9, Try.ntmps9
  have hB := Below.refl w.heap.size w
  go_wp2_with fail
  refine (alive_c _).mono ?_; rintro e w1 ⟨rfl, hb⟩
  replace sx := sx.below hb
  replace sy := sy.below hb
  replace sz := sz.below hb
  replace hB := hB.trans (hb.mono hB.size)
  clear hb
  go_wp2_with fail
  refine (Cmp_c _ _ _ _ _ _ _ sx sy ux uy).mono ?_; rintro e w2 ⟨rfl, hb⟩
  replace sx := sx.below hb.b
  replace sy := sy.below hb.b
  replace sz := sz.below hb.b
  replace hB := hB.trans (hb.b.mono hB.size)
  clear hb
  rw [cmpI_gt (show val ys < val xs by have := hab.out; have := hbc.out; have := hc.out; omega)]
  go_wp2_with fail
  refine (Cmp_c _ _ _ _ _ _ _ sy sz uy uz).mono ?_; rintro e w3 ⟨rfl, hb⟩
  replace sx := sx.below hb.b
  replace sy := sy.below hb.b
  replace sz := sz.below hb.b
  replace hB := hB.trans (hb.b.mono hB.size)
  clear hb
  rw [cmpI_eq (show val ys = val zs by have := hab.out; have := hbc.out; have := hc.out; omega)]
  go_wp2_with fail
  refine (Cmp_c _ _ _ _ _ _ _ sx sx ux ux).mono ?_; rintro e w4 ⟨rfl, hb⟩
  replace sx := sx.below hb.b
  replace sy := sy.below hb.b
  replace sz := sz.below hb.b
  replace hB := hB.trans (hb.b.mono hB.size)
  clear hb
  rw [cmpI_eq (show val xs = val xs by rfl)]
  go_wp2_with fail
  refine (Cmp_c _ _ _ _ _ _ _ sy sx uy ux).mono ?_; rintro e w5 ⟨rfl, hb⟩
  replace sx := sx.below hb.b
  replace sy := sy.below hb.b
  replace sz := sz.below hb.b
  replace hB := hB.trans (hb.b.mono hB.size)
  clear hb
  rw [cmpI_lt (show val ys < val xs by have := hab.out; have := hbc.out; have := hc.out; omega)]
  go_wp2_with fail
  refine (Add_c _ _ _ _ _ _ _ sx sz ux uz (by omega) (by omega)).mono ?_; rintro e w6 ⟨v1, rfl, hn, hb⟩
  replace sx := sx.below hb
  replace sy := sy.below hb
  replace sz := sz.below hb
  replace hB := hB.trans (hb.mono hB.size)
  clear hb
  obtain ⟨adS, cpS, zS, rfl, sS, nS, uS, hv⟩ := hn.sl
  have mS := Lim.eq (mx.add mz) hv
  have lS := mS.len nS uS
  have vS := Lib.hid hv
  clear hv
  clear hn
  go_wp2_with fail
  refine (Add_c _ _ _ _ _ _ _ sy sz uy uz (by omega) (by omega)).mono ?_; rintro e w7 ⟨v1, rfl, hn, hb⟩
  replace sx := sx.below hb
  replace sy := sy.below hb
  replace sz := sz.below hb
  replace sS := sS.below hb
  replace hB := hB.trans (hb.mono hB.size)
  clear hb
  obtain ⟨adT, cpT, zT, rfl, sT, nT, uT, hv⟩ := hn.sl
  have mT := Lim.eq (my.add mz) hv
  have lT := mT.len nT uT
  have vT := Lib.hid hv
  clear hv
  clear hn
  go_wp2_with fail
  refine (Cmp_c _ _ _ _ _ _ _ sS sT uS uT).mono ?_; rintro e w8 ⟨rfl, hb⟩
  replace sx := sx.below hb.b
  replace sy := sy.below hb.b
  replace sz := sz.below hb.b
  replace sS := sS.below hb.b
  replace sT := sT.below hb.b
  replace hB := hB.trans (hb.b.mono hB.size)
  clear hb
  rw [cmpI_gt (show val zT < val zS by rw [vS.out, vT.out]; have := hab.out; have := hbc.out; have := hc.out; omega)]
  clear sS
  clear sT
  go_wp2_with fail
  refine (Mul_c _ _ _ _ _ _ _ sx sz ux uz (by omega) (by omega)).mono ?_; rintro e w9 ⟨v1, rfl, hn, hb⟩
  replace sx := sx.below hb
  replace sy := sy.below hb
  replace sz := sz.below hb
  replace hB := hB.trans (hb.mono hB.size)
  clear hb
  obtain ⟨adM, cpM, zM, rfl, sM, nM, uM, hv⟩ := hn.sl
  have mM := Lim.eq (mx.mul mz) hv
  have lM := mM.len nM uM
  have vM := Lib.hid hv
  clear hv
  clear hn
  go_wp2_with fail
  refine (Mul_c _ _ _ _ _ _ _ sy sz uy uz (by omega) (by omega)).mono ?_; rintro e w10 ⟨v1, rfl, hn, hb⟩
  replace sx := sx.below hb
  replace sy := sy.below hb
  replace sz := sz.below hb
  replace sM := sM.below hb
  replace hB := hB.trans (hb.mono hB.size)
  clear hb
  obtain ⟨adV, cpV, zV, rfl, sV, nV, uV, hv⟩ := hn.sl
  have mV := Lim.eq (my.mul mz) hv
  have lV := mV.len nV uV
  have vV := Lib.hid hv
  clear hv
  clear hn
  go_wp2_with fail
  refine (Cmp_c _ _ _ _ _ _ _ sM sV uM uV).mono ?_; rintro e w11 ⟨rfl, hb⟩
  replace sx := sx.below hb.b
  replace sy := sy.below hb.b
  replace sz := sz.below hb.b
  replace sM := sM.below hb.b
  replace sV := sV.below hb.b
  replace hB := hB.trans (hb.b.mono hB.size)
  clear hb
  rw [cmpI_gt (show val zV < val zM by rw [vM.out, vV.out]; exact Nat.mul_lt_mul_of_pos_right hab.out hc.out)]
  clear sM
  clear sV
  obtain ⟨bc, hbl⟩ : ∃ bc, bc = bl (val zs) := ⟨_, rfl⟩
  have hbp : (1 : Int) ≤ (bc : Int) := by have := bl_pos (Nat.pos_iff_ne_zero.1 hc.out); omega
  have hbz : ((bc : Int) == 0) = false := by simp; omega
  have HBL := Lib.hid hbl
  clear hbl
  go_wp2_with fail
  refine (Bits_c _ _ _ _ sz uz (by omega)).mono ?_; rintro e w12 ⟨rfl, rfl⟩
  rw [← HBL.out]
  go_wp2_with fail
  refine (Bits_c _ _ _ _ sz uz (by omega)).mono ?_; rintro e w12 ⟨rfl, rfl⟩
  rw [← HBL.out]
  go_wp2_with fail
  refine (Sub_c _ _ _ _ _ _ _ sy sx uy ux (by omega) (by omega)).mono ?_; rintro e w12 hp
  obtain ⟨adD, cpD, zD, rfl, sD, nD, uD, hv, hb⟩ := hp.sl
  replace sx := sx.below hb
  replace sy := sy.below hb
  replace sz := sz.below hb
  replace hB := hB.trans (hb.mono hB.size)
  clear hb hp
  have mD := Lim.eq (my.le (Nat.sub_le _ _)) hv
  have lD := mD.len nD uD
  have vD := Lib.hid hv
  clear hv
  rw [decide_eq_false (show ¬ val xs ≤ val ys by have := hab.out; omega)]
  clear sD
  have hk : Blk (w12.alloc (.cells #[.int .u32 1] 52)) w12.heap.size .u32 52 [1] := cells_new .u32 w12 52 [1] #[.int .u32 1] rfl _ rfl
  have sa := hk.sl_full (by simp)
  have hb := (Below.refl w12.heap.size w12).alloc (Nat.le_refl _) (.cells #[.int .u32 1] 52)
  replace sx := sx.below hb
  replace sy := sy.below hb
  replace sz := sz.below hb
  replace hB := hB.trans (hb.mono hB.size)
  clear hb hk
  have ua : U32 [1] := .of_mem (by omega) (by simp)
  have la : ([1] : List Int).length ≤ 1 := by simp
  have ma : Lim 1 (val [1]) := .of_list ua la
  have va : Hid (val [1] = 1) := Lib.hid (by decide)
  go_wp2_with fail
  refine (Add_c _ _ _ _ _ _ _ sx sa ux ua (by omega) (by omega)).mono ?_; rintro e w13 ⟨v1, rfl, hn, hb⟩
  replace sx := sx.below hb
  replace sy := sy.below hb
  replace sz := sz.below hb
  replace sa := sa.below hb
  replace hB := hB.trans (hb.mono hB.size)
  clear hb
  obtain ⟨adI, cpI, zI, rfl, sI, nI, uI, hv⟩ := hn.sl
  have mI := Lim.eq (mx.add ma) hv
  have lI := mI.len nI uI
  have vI := Lib.hid hv
  clear hv
  clear hn
  clear sa
  go_wp2_with fail
  refine (Cmp_c _ _ _ _ _ _ _ sI sx uI ux).mono ?_; rintro e w14 ⟨rfl, hb⟩
  replace sx := sx.below hb.b
  replace sy := sy.below hb.b
  replace sz := sz.below hb.b
  replace sI := sI.below hb.b
  replace hB := hB.trans (hb.b.mono hB.size)
  clear hb
  rw [cmpI_gt (show val xs < val zI by rw [vI.out, va.out]; omega)]
  go_wp2_with fail
  go_ret
  exact ⟨rfl, hB⟩

set_option maxHeartbeats 8000000 in
set_option maxRecDepth 100000 in
theorem NatOrder_cgez (a a' a'' : Option Addr) (cap cap' cap'' : Nat) (xs ys zs : List Int) (w : World) (sx : Sl .u32 w a cap xs) (sy : Sl .u32 w a' cap' ys) (sz : Sl .u32 w a'' cap'' zs) (ux : U32 xs) (uy : U32 ys) (uz : U32 zs) (hl : xs.length + ys.length + zs.length ≤ 1048576)
    (hab : Hid (val ys < val xs)) (hbc : Hid (val ys = val zs)) (hc : Hid (val zs = 0)) :
    Calls Try.prog 9 #[.slice a xs.length cap, .slice a' ys.length cap', .slice a'' zs.length cap''] w (TruePost w) := by
  have mx : Lim 1048576 (val xs) := .of_list ux (by omega)
  have my : Lim 1048576 (val ys) := .of_list uy (by omega)
  have mz : Lim 1048576 (val zs) := .of_list uz (by omega)
  go_enter Try.func9, Try.ntmps9
  have hB := Below.refl w.heap.size w
  go_wp2_with fail
  refine (alive_c _).mono ?_; rintro e w1 ⟨rfl, hb⟩
  replace sx := sx.below hb
  replace sy := sy.below hb
  replace sz := sz.below hb
  replace hB := hB.trans (hb.mono hB.size)
  clear hb
  go_wp2_with fail
  refine (Cmp_c _ _ _ _ _ _ _ sx sy ux uy).mono ?_; rintro e w2 ⟨rfl, hb⟩
  replace sx := sx.below hb.b
  replace sy := sy.below hb.b
  replace sz := sz.below hb.b
  replace hB := hB.trans (hb.b.mono hB.size)
  clear hb
  rw [cmpI_gt (show val ys < val xs by have := hab.out; have := hbc.out; have := hc.out; omega)]
  go_wp2_with fail
  refine (Cmp_c _ _ _ _ _ _ _ sy sz uy uz).mono ?_; rintro e w3 ⟨rfl, hb⟩
  replace sx := sx.below hb.b
  replace sy := sy.below hb.b
  replace sz := sz.below hb.b
  replace hB := hB.trans (hb.b.mono hB.size)
  clear hb
  rw [cmpI_eq (show val ys = val zs by have := hab.out; have := hbc.out; have := hc.out; omega)]
  go_wp2_with fail
  refine (Cmp_c _ _ _ _ _ _ _ sx sx ux ux).mono ?_; rintro e w4 ⟨rfl, hb⟩
  replace sx := sx.below hb.b
  replace sy := sy.below hb.b
  replace sz := sz.below hb.b
  replace hB := hB.trans (hb.b.mono hB.size)
  clear hb
  rw [cmpI_eq (show val xs = val xs by rfl)]
  go_wp2_with fail
  refine (Cmp_c _ _ _ _ _ _ _ sy sx uy ux).mono ?_; rintro e w5 ⟨rfl, hb⟩
  replace sx := sx.below hb.b
  replace sy := sy.below hb.b
  replace sz := sz.below hb.b
  replace hB := hB.trans (hb.b.mono hB.size)
  clear hb
  rw [cmpI_lt (show val ys < val xs by have := hab.out; have := hbc.out; have := hc.out; omega)]
  go_wp2_with fail
  refine (Add_c _ _ _ _ _ _ _ sx sz ux uz (by omega) (by omega)).mono ?_; rintro e w6 ⟨v1, rfl, hn, hb⟩
  replace sx := sx.below hb
  replace sy := sy.below hb
  replace sz := sz.below hb
  replace hB := hB.trans (hb.mono hB.size)
  clear hb
  obtain ⟨adS, cpS, zS, rfl, sS, nS, uS, hv⟩ := hn.sl
  have mS := Lim.eq (mx.add mz) hv
  have lS := mS.len nS uS
  have vS := Lib.hid hv
  clear hv
  clear hn
  go_wp2_with fail
  refine (Add_c _ _ _ _ _ _ _ sy sz uy uz (by omega) (by omega)).mono ?_; rintro e w7 ⟨v1, rfl, hn, hb⟩
  replace sx := sx.below hb
  replace sy := sy.below hb
  replace sz := sz.below hb
  replace sS := sS.below hb
  replace hB := hB.trans (hb.mono hB.size)
  clear hb
  obtain ⟨adT, cpT, zT, rfl, sT, nT, uT, hv⟩ := hn.sl
  have mT := Lim.eq (my.add mz) hv
  have lT := mT.len nT uT
  have vT := Lib.hid hv
  clear hv
  clear hn
  go_wp2_with fail
  refine (Cmp_c _ _ _ _ _ _ _ sS sT uS uT).mono ?_; rintro e w8 ⟨rfl, hb⟩
  replace sx := sx.below hb.b
  replace sy := sy.below hb.b
  replace sz := sz.below hb.b
  replace sS := sS.below hb.b
  replace sT := sT.below hb.b
  replace hB := hB.trans (hb.b.mono hB.size)
  clear hb
  rw [cmpI_gt (show val zT < val zS by rw [vS.out, vT.out]; have := hab.out; have := hbc.out; have := hc.out; omega)]
  clear sS
  clear sT
  go_wp2_with fail
  refine (Mul_c _ _ _ _ _ _ _ sx sz ux uz (by omega) (by omega)).mono ?_; rintro e w9 ⟨v1, rfl, hn, hb⟩
  replace sx := sx.below hb
  replace sy := sy.below hb
  replace sz := sz.below hb
  replace hB := hB.trans (hb.mono hB.size)
  clear hb
  obtain ⟨adM, cpM, zM, rfl, sM, nM, uM, hv⟩ := hn.sl
  have mM := Lim.eq (mx.mul mz) hv
  have lM := mM.len nM uM
  have vM := Lib.hid hv
  clear hv
  clear hn
  go_wp2_with fail
  refine (Mul_c _ _ _ _ _ _ _ sy sz uy uz (by omega) (by omega)).mono ?_; rintro e w10 ⟨v1, rfl, hn, hb⟩
  replace sx := sx.below hb
  replace sy := sy.below hb
  replace sz := sz.below hb
  replace sM := sM.below hb
  replace hB := hB.trans (hb.mono hB.size)
  clear hb
  obtain ⟨adV, cpV, zV, rfl, sV, nV, uV, hv⟩ := hn.sl
  have mV := Lim.eq (my.mul mz) hv
  have lV := mV.len nV uV
  have vV := Lib.hid hv
  clear hv
  clear hn
  go_wp2_with fail
  refine (Cmp_c _ _ _ _ _ _ _ sM sV uM uV).mono ?_; rintro e w11 ⟨rfl, hb⟩
  replace sx := sx.below hb.b
  replace sy := sy.below hb.b
  replace sz := sz.below hb.b
  replace sM := sM.below hb.b
  replace sV := sV.below hb.b
  replace hB := hB.trans (hb.b.mono hB.size)
  clear hb
  rw [cmpI_eq (show val zM = val zV by rw [vM.out, vV.out, hc.out, Nat.mul_zero, Nat.mul_zero])]
  clear sM
  clear sV
  obtain ⟨bc, hbl⟩ : ∃ bc, bc = bl (val zs) := ⟨_, rfl⟩
  obtain rfl : bc = 0 := by rw [hbl, hc.out]; rfl
  have HBL := Lib.hid hbl
  clear hbl
  go_wp2_with fail
  refine (Bits_c _ _ _ _ sz uz (by omega)).mono ?_; rintro e w12 ⟨rfl, rfl⟩
  rw [← HBL.out]
  go_wp2_with fail
  refine (Bits_c _ _ _ _ sz uz (by omega)).mono ?_; rintro e w12 ⟨rfl, rfl⟩
  rw [← HBL.out]
  go_wp2_with fail
  refine (Sub_c _ _ _ _ _ _ _ sy sx uy ux (by omega) (by omega)).mono ?_; rintro e w12 hp
  obtain ⟨adD, cpD, zD, rfl, sD, nD, uD, hv, hb⟩ := hp.sl
  replace sx := sx.below hb
  replace sy := sy.below hb
  replace sz := sz.below hb
  replace hB := hB.trans (hb.mono hB.size)
  clear hb hp
  have mD := Lim.eq (my.le (Nat.sub_le _ _)) hv
  have lD := mD.len nD uD
  have vD := Lib.hid hv
  clear hv
  rw [decide_eq_false (show ¬ val xs ≤ val ys by have := hab.out; omega)]
  clear sD
  have hk : Blk (w12.alloc (.cells #[.int .u32 1] 52)) w12.heap.size .u32 52 [1] := cells_new .u32 w12 52 [1] #[.int .u32 1] rfl _ rfl
  have sa := hk.sl_full (by simp)
  have hb := (Below.refl w12.heap.size w12).alloc (Nat.le_refl _) (.cells #[.int .u32 1] 52)
  replace sx := sx.below hb
  replace sy := sy.below hb
  replace sz := sz.below hb
  replace hB := hB.trans (hb.mono hB.size)
  clear hb hk
  have ua : U32 [1] := .of_mem (by omega) (by simp)
  have la : ([1] : List Int).length ≤ 1 := by simp
  have ma : Lim 1 (val [1]) := .of_list ua la
  have va : Hid (val [1] = 1) := Lib.hid (by decide)
  go_wp2_with fail
  refine (Add_c _ _ _ _ _ _ _ sx sa ux ua (by omega) (by omega)).mono ?_; rintro e w13 ⟨v1, rfl, hn, hb⟩
  replace sx := sx.below hb
  replace sy := sy.below hb
  replace sz := sz.below hb
  replace sa := sa.below hb
  replace hB := hB.trans (hb.mono hB.size)
  clear hb
  obtain ⟨adI, cpI, zI, rfl, sI, nI, uI, hv⟩ := hn.sl
  have mI := Lim.eq (mx.add ma) hv
  have lI := mI.len nI uI
  have vI := Lib.hid hv
  clear hv
  clear hn
  clear sa
  go_wp2_with fail
  refine (Cmp_c _ _ _ _ _ _ _ sI sx uI ux).mono ?_; rintro e w14 ⟨rfl, hb⟩
  replace sx := sx.below hb.b
  replace sy := sy.below hb.b
  replace sz := sz.below hb.b
  replace sI := sI.below hb.b
  replace hB := hB.trans (hb.b.mono hB.size)
  clear hb
  rw [cmpI_gt (show val xs < val zI by rw [vI.out, va.out]; omega)]
  go_wp2_with fail
  go_ret
  exact ⟨rfl, hB⟩

set_option maxHeartbeats 8000000 in
set_option maxRecDepth 100000 in
theorem NatOrder_cggp (a a' a'' : Option Addr) (cap cap' cap'' : Nat) (xs ys zs : List Int) (w : World) (sx : Sl .u32 w a cap xs) (sy : Sl .u32 w a' cap' ys) (sz : Sl .u32 w a'' cap'' zs) (ux : U32 xs) (uy : U32 ys) (uz : U32 zs) (hl : xs.length + ys.length + zs.length ≤ 1048576)
    (hab : Hid (val ys < val xs)) (hbc : Hid (val zs < val ys)) (hc : Hid (0 < val zs)) :
    Calls Try.prog 9 #[.slice a xs.length cap, .slice a' ys.length cap', .slice a'' zs.length cap''] w (TruePost w) := by
  have mx : Lim 1048576 (val xs) := .of_list ux (by omega)
  have my : Lim 1048576 (val ys) := .of_list uy (by omega)
  have mz : Lim 1048576 (val zs) := .of_list uz (by omega)
  go_enter Try.func9, Try.ntmps9
  have hB := Below.refl w.heap.size w
  go_wp2_with fail
  refine (alive_c _).mono ?_; rintro e w1 ⟨rfl, hb⟩
  replace sx := sx.below hb
  replace sy := sy.below hb
  replace sz := sz.below hb
  replace hB := hB.trans (hb.mono hB.size)
  clear hb
  go_wp2_with fail
  refine (Cmp_c _ _ _ _ _ _ _ sx sy ux uy).mono ?_; rintro e w2 ⟨rfl, hb⟩
  replace sx := sx.below hb.b
  replace sy := sy.below hb.b
  replace sz := sz.below hb.b
  replace hB := hB.trans (hb.b.mono hB.size)
  clear hb
  rw [cmpI_gt (show val ys < val xs by have := hab.out; have := hbc.out; have := hc.out; omega)]
  go_wp2_with fail
  refine (Cmp_c _ _ _ _ _ _ _ sy sz uy uz).mono ?_; rintro e w3 ⟨rfl, hb⟩
  replace sx := sx.below hb.b
  replace sy := sy.below hb.b
  replace sz := sz.below hb.b
  replace hB := hB.trans (hb.b.mono hB.size)
  clear hb
  rw [cmpI_gt (show val zs < val ys by have := hab.out; have := hbc.out; have := hc.out; omega)]
  go_wp2_with fail
  refine (Cmp_c _ _ _ _ _ _ _ sx sx ux ux).mono ?_; rintro e w4 ⟨rfl, hb⟩
  replace sx := sx.below hb.b
  replace sy := sy.below hb.b
  replace sz := sz.below hb.b
  replace hB := hB.trans (hb.b.mono hB.size)
  clear hb
  rw [cmpI_eq (show val xs = val xs by rfl)]
  go_wp2_with fail
  refine (Cmp_c _ _ _ _ _ _ _ sy sx uy ux).mono ?_; rintro e w5 ⟨rfl, hb⟩
  replace sx := sx.below hb.b
  replace sy := sy.below hb.b
  replace sz := sz.below hb.b
  replace hB := hB.trans (hb.b.mono hB.size)
  clear hb
  rw [cmpI_lt (show val ys < val xs by have := hab.out; have := hbc.out; have := hc.out; omega)]
  go_wp2_with fail
  refine (Add_c _ _ _ _ _ _ _ sx sz ux uz (by omega) (by omega)).mono ?_; rintro e w6 ⟨v1, rfl, hn, hb⟩
  replace sx := sx.below hb
  replace sy := sy.below hb
  replace sz := sz.below hb
  replace hB := hB.trans (hb.mono hB.size)
  clear hb
  obtain ⟨adS, cpS, zS, rfl, sS, nS, uS, hv⟩ := hn.sl
  have mS := Lim.eq (mx.add mz) hv
  have lS := mS.len nS uS
  have vS := Lib.hid hv
  clear hv
  clear hn
  go_wp2_with fail
  refine (Add_c _ _ _ _ _ _ _ sy sz uy uz (by omega) (by omega)).mono ?_; rintro e w7 ⟨v1, rfl, hn, hb⟩
  replace sx := sx.below hb
  replace sy := sy.below hb
  replace sz := sz.below hb
  replace sS := sS.below hb
  replace hB := hB.trans (hb.mono hB.size)
  clear hb
  obtain ⟨adT, cpT, zT, rfl, sT, nT, uT, hv⟩ := hn.sl
  have mT := Lim.eq (my.add mz) hv
  have lT := mT.len nT uT
  have vT := Lib.hid hv
  clear hv
  clear hn
  go_wp2_with fail
  refine (Cmp_c _ _ _ _ _ _ _ sS sT uS uT).mono ?_; rintro e w8 ⟨rfl, hb⟩
  replace sx := sx.below hb.b
  replace sy := sy.below hb.b
  replace sz := sz.below hb.b
  replace sS := sS.below hb.b
  replace sT := sT.below hb.b
  replace hB := hB.trans (hb.b.mono hB.size)
  clear hb
  rw [cmpI_gt (show val zT < val zS by rw [vS.out, vT.out]; have := hab.out; have := hbc.out; have := hc.out; omega)]
  clear sS
  clear sT
  go_wp2_with fail
  refine (Mul_c _ _ _ _ _ _ _ sx sz ux uz (by omega) (by omega)).mono ?_; rintro e w9 ⟨v1, rfl, hn, hb⟩
  replace sx := sx.below hb
  replace sy := sy.below hb
  replace sz := sz.below hb
  replace hB := hB.trans (hb.mono hB.size)
  clear hb
  obtain ⟨adM, cpM, zM, rfl, sM, nM, uM, hv⟩ := hn.sl
  have mM := Lim.eq (mx.mul mz) hv
  have lM := mM.len nM uM
  have vM := Lib.hid hv
  clear hv
  clear hn
  go_wp2_with fail
  refine (Mul_c _ _ _ _ _ _ _ sy sz uy uz (by omega) (by omega)).mono ?_; rintro e w10 ⟨v1, rfl, hn, hb⟩
  replace sx := sx.below hb
  replace sy := sy.below hb
  replace sz := sz.below hb
  replace sM := sM.below hb
  replace hB := hB.trans (hb.mono hB.size)
  clear hb
  obtain ⟨adV, cpV, zV, rfl, sV, nV, uV, hv⟩ := hn.sl
  have mV := Lim.eq (my.mul mz) hv
  have lV := mV.len nV uV
  have vV := Lib.hid hv
  clear hv
  clear hn
  go_wp2_with fail
  refine (Cmp_c _ _ _ _ _ _ _ sM sV uM uV).mono ?_; rintro e w11 ⟨rfl, hb⟩
  replace sx := sx.below hb.b
  replace sy := sy.below hb.b
  replace sz := sz.below hb.b
  replace sM := sM.below hb.b
  replace sV := sV.below hb.b
  replace hB := hB.trans (hb.b.mono hB.size)
  clear hb
  rw [cmpI_gt (show val zV < val zM by rw [vM.out, vV.out]; exact Nat.mul_lt_mul_of_pos_right hab.out hc.out)]
  clear sM
  clear sV
  obtain ⟨bc, hbl⟩ : ∃ bc, bc = bl (val zs) := ⟨_, rfl⟩
  have hbp : (1 : Int) ≤ (bc : Int) := by have := bl_pos (Nat.pos_iff_ne_zero.1 hc.out); omega
  have hbz : ((bc : Int) == 0) = false := by simp; omega
  have HBL := Lib.hid hbl
  clear hbl
  go_wp2_with fail
  refine (Bits_c _ _ _ _ sz uz (by omega)).mono ?_; rintro e w12 ⟨rfl, rfl⟩
  rw [← HBL.out]
  go_wp2_with fail
  refine (Bits_c _ _ _ _ sz uz (by omega)).mono ?_; rintro e w12 ⟨rfl, rfl⟩
  rw [← HBL.out]
  go_wp2_with fail
  refine (Sub_c _ _ _ _ _ _ _ sy sx uy ux (by omega) (by omega)).mono ?_; rintro e w12 hp
  obtain ⟨adD, cpD, zD, rfl, sD, nD, uD, hv, hb⟩ := hp.sl
  replace sx := sx.below hb
  replace sy := sy.below hb
  replace sz := sz.below hb
  replace hB := hB.trans (hb.mono hB.size)
  clear hb hp
  have mD := Lim.eq (my.le (Nat.sub_le _ _)) hv
  have lD := mD.len nD uD
  have vD := Lib.hid hv
  clear hv
  rw [decide_eq_false (show ¬ val xs ≤ val ys by have := hab.out; omega)]
  clear sD
  have hk : Blk (w12.alloc (.cells #[.int .u32 1] 52)) w12.heap.size .u32 52 [1] := cells_new .u32 w12 52 [1] #[.int .u32 1] rfl _ rfl
  have sa := hk.sl_full (by simp)
  have hb := (Below.refl w12.heap.size w12).alloc (Nat.le_refl _) (.cells #[.int .u32 1] 52)
  replace sx := sx.below hb
  replace sy := sy.below hb
  replace sz := sz.below hb
  replace hB := hB.trans (hb.mono hB.size)
  clear hb hk
  have ua : U32 [1] := .of_mem (by omega) (by simp)
  have la : ([1] : List Int).length ≤ 1 := by simp
  have ma : Lim 1 (val [1]) := .of_list ua la
  have va : Hid (val [1] = 1) := Lib.hid (by decide)
  go_wp2_with fail
  refine (Add_c _ _ _ _ _ _ _ sx sa ux ua (by omega) (by omega)).mono ?_; rintro e w13 ⟨v1, rfl, hn, hb⟩
  replace sx := sx.below hb
  replace sy := sy.below hb
  replace sz := sz.below hb
  replace sa := sa.below hb
  replace hB := hB.trans (hb.mono hB.size)
  clear hb
  obtain ⟨adI, cpI, zI, rfl, sI, nI, uI, hv⟩ := hn.sl
  have mI := Lim.eq (mx.add ma) hv
  have lI := mI.len nI uI
  have vI := Lib.hid hv
  clear hv
  clear hn
  clear sa
  go_wp2_with fail
  refine (Cmp_c _ _ _ _ _ _ _ sI sx uI ux).mono ?_; rintro e w14 ⟨rfl, hb⟩
  replace sx := sx.below hb.b
  replace sy := sy.below hb.b
  replace sz := sz.below hb.b
  replace sI := sI.below hb.b
  replace hB := hB.trans (hb.b.mono hB.size)
  clear hb
  rw [cmpI_gt (show val xs < val zI by rw [vI.out, va.out]; omega)]
  go_wp2_with fail
  go_ret
  exact ⟨rfl, hB⟩

set_option maxHeartbeats 8000000 in
set_option maxRecDepth 100000 in
theorem NatOrder_cggz (a a' a'' : Option Addr) (cap cap' cap'' : Nat) (xs ys zs : List Int) (w : World) (sx : Sl .u32 w a cap xs) (sy : Sl .u32 w a' cap' ys) (sz : Sl .u32 w a'' cap'' zs) (ux : U32 xs) (uy : U32 ys) (uz : U32 zs) (hl : xs.length + ys.length + zs.length ≤ 1048576)
    (hab : Hid (val ys < val xs)) (hbc : Hid (val zs < val ys)) (hc : Hid (val zs = 0)) :
    Calls Try.prog 9 #[.slice a xs.length cap, .slice a' ys.length cap', .slice a'' zs.length cap''] w (TruePost w) := by
  have mx : Lim 1048576 (val xs) := .of_list ux (by omega)
  have my : Lim 1048576 (val ys) := .of_list uy (by omega)
  have mz : Lim 1048576 (val zs) := .of_list uz (by omega)
  go_enter Try.func9, Try.ntmps9
  have hB := Below.refl w.heap.size w
  go_wp2_with fail
  refine (alive_c _).mono ?_; rintro e w1 ⟨rfl, hb⟩
  replace sx := sx.below hb
  replace sy := sy.below hb
  replace sz := sz.below hb
  replace hB := hB.trans (hb.mono hB.size)
  clear hb
  go_wp2_with fail
  refine (Cmp_c _ _ _ _ _ _ _ sx sy ux uy).mono ?_; rintro e w2 ⟨rfl, hb⟩
  replace sx := sx.below hb.b
  replace sy := sy.below hb.b
  replace sz := sz.below hb.b
  replace hB := hB.trans (hb.b.mono hB.size)
  clear hb
  rw [cmpI_gt (show val ys < val xs by have := hab.out; have := hbc.out; have := hc.out; omega)]
  go_wp2_with fail
  refine (Cmp_c _ _ _ _ _ _ _ sy sz uy uz).mono ?_; rintro e w3 ⟨rfl, hb⟩
  replace sx := sx.below hb.b
  replace sy := sy.below hb.b
  replace sz := sz.below hb.b
  replace hB := hB.trans (hb.b.mono hB.size)
  clear hb
  rw [cmpI_gt (show val zs < val ys by have := hab.out; have := hbc.out; have := hc.out; omega)]
  go_wp2_with fail
  refine (Cmp_c _ _ _ _ _ _ _ sx sx ux ux).mono ?_; rintro e w4 ⟨rfl, hb⟩
  replace sx := sx.below hb.b
  replace sy := sy.below hb.b
  replace sz := sz.below hb.b
  replace hB := hB.trans (hb.b.mono hB.size)
  clear hb
  rw [cmpI_eq (show val xs = val xs by rfl)]
  go_wp2_with fail
  refine (Cmp_c _ _ _ _ _ _ _ sy sx uy ux).mono ?_; rintro e w5 ⟨rfl, hb⟩
  replace sx := sx.below hb.b
  replace sy := sy.below hb.b
  replace sz := sz.below hb.b
  replace hB := hB.trans (hb.b.mono hB.size)
  clear hb
  rw [cmpI_lt (show val ys < val xs by have := hab.out; have := hbc.out; have := hc.out; omega)]
  go_wp2_with fail
  refine (Add_c _ _ _ _ _ _ _ sx sz ux uz (by omega) (by omega)).mono ?_; rintro e w6 ⟨v1, rfl, hn, hb⟩
  replace sx := sx.below hb
  replace sy := sy.below hb
  replace sz := sz.below hb
  replace hB := hB.trans (hb.mono hB.size)
  clear hb
  obtain ⟨adS, cpS, zS, rfl, sS, nS, uS, hv⟩ := hn.sl
  have mS := Lim.eq (mx.add mz) hv
  have lS := mS.len nS uS
  have vS := Lib.hid hv
  clear hv
  clear hn
  go_wp2_with fail
  refine (Add_c _ _ _ _ _ _ _ sy sz uy uz (by omega) (by omega)).mono ?_; rintro e w7 ⟨v1, rfl, hn, hb⟩
  replace sx := sx.below hb
  replace sy := sy.below hb
  replace sz := sz.below hb
  replace sS := sS.below hb
  replace hB := hB.trans (hb.mono hB.size)
  clear hb
  obtain ⟨adT, cpT, zT, rfl, sT, nT, uT, hv⟩ := hn.sl
  have mT := Lim.eq (my.add mz) hv
  have lT := mT.len nT uT
  have vT := Lib.hid hv
  clear hv
  clear hn
  go_wp2_with fail
  refine (Cmp_c _ _ _ _ _ _ _ sS sT uS uT).mono ?_; rintro e w8 ⟨rfl, hb⟩
  replace sx := sx.below hb.b
  replace sy := sy.below hb.b
  replace sz := sz.below hb.b
  replace sS := sS.below hb.b
  replace sT := sT.below hb.b
  replace hB := hB.trans (hb.b.mono hB.size)
  clear hb
  rw [cmpI_gt (show val zT < val zS by rw [vS.out, vT.out]; have := hab.out; have := hbc.out; have := hc.out; omega)]
  clear sS
  clear sT
  go_wp2_with fail
  refine (Mul_c _ _ _ _ _ _ _ sx sz ux uz (by omega) (by omega)).mono ?_; rintro e w9 ⟨v1, rfl, hn, hb⟩
  replace sx := sx.below hb
  replace sy := sy.below hb
  replace sz := sz.below hb
  replace hB := hB.trans (hb.mono hB.size)
  clear hb
  obtain ⟨adM, cpM, zM, rfl, sM, nM, uM, hv⟩ := hn.sl
  have mM := Lim.eq (mx.mul mz) hv
  have lM := mM.len nM uM
  have vM := Lib.hid hv
  clear hv
  clear hn
  go_wp2_with fail
  refine (Mul_c _ _ _ _ _ _ _ sy sz uy uz (by omega) (by omega)).mono ?_; rintro e w10 ⟨v1, rfl, hn, hb⟩
  replace sx := sx.below hb
  replace sy := sy.below hb
  replace sz := sz.below hb
  replace sM := sM.below hb
  replace hB := hB.trans (hb.mono hB.size)
  clear hb
  obtain ⟨adV, cpV, zV, rfl, sV, nV, uV, hv⟩ := hn.sl
  have mV := Lim.eq (my.mul mz) hv
  have lV := mV.len nV uV
  have vV := Lib.hid hv
  clear hv
  clear hn
  go_wp2_with fail
  refine (Cmp_c _ _ _ _ _ _ _ sM sV uM uV).mono ?_; rintro e w11 ⟨rfl, hb⟩
  replace sx := sx.below hb.b
  replace sy := sy.below hb.b
  replace sz := sz.below hb.b
  replace sM := sM.below hb.b
  replace sV := sV.below hb.b
  replace hB := hB.trans (hb.b.mono hB.size)
  clear hb
  rw [cmpI_eq (show val zM = val zV by rw [vM.out, vV.out, hc.out, Nat.mul_zero, Nat.mul_zero])]
  clear sM
  clear sV
  obtain ⟨bc, hbl⟩ : ∃ bc, bc = bl (val zs) := ⟨_, rfl⟩
  obtain rfl : bc = 0 := by rw [hbl, hc.out]; rfl
  have HBL := Lib.hid hbl
  clear hbl
  go_wp2_with fail
  refine (Bits_c _ _ _ _ sz uz (by omega)).mono ?_; rintro e w12 ⟨rfl, rfl⟩
  rw [← HBL.out]
  go_wp2_with fail
  refine (Bits_c _ _ _ _ sz uz (by omega)).mono ?_; rintro e w12 ⟨rfl, rfl⟩
  rw [← HBL.out]
  go_wp2_with fail
  refine (Sub_c _ _ _ _ _ _ _ sy sx uy ux (by omega) (by omega)).mono ?_; rintro e w12 hp
  obtain ⟨adD, cpD, zD, rfl, sD, nD, uD, hv, hb⟩ := hp.sl
  replace sx := sx.below hb
  replace sy := sy.below hb
  replace sz := sz.below hb
  replace hB := hB.trans (hb.mono hB.size)
  clear hb hp
  have mD := Lim.eq (my.le (Nat.sub_le _ _)) hv
  have lD := mD.len nD uD
  have vD := Lib.hid hv
  clear hv
  rw [decide_eq_false (show ¬ val xs ≤ val ys by have := hab.out; omega)]
  clear sD
  have hk : Blk (w12.alloc (.cells #[.int .u32 1] 52)) w12.heap.size .u32 52 [1] := cells_new .u32 w12 52 [1] #[.int .u32 1] rfl _ rfl
  have sa := hk.sl_full (by simp)
  have hb := (Below.refl w12.heap.size w12).alloc (Nat.le_refl _) (.cells #[.int .u32 1] 52)
  replace sx := sx.below hb
  replace sy := sy.below hb
  replace sz := sz.below hb
  replace hB := hB.trans (hb.mono hB.size)
  clear hb hk
  have ua : U32 [1] := .of_mem (by omega) (by simp)
  have la : ([1] : List Int).length ≤ 1 := by simp
  have ma : Lim 1 (val [1]) := .of_list ua la
  have va : Hid (val [1] = 1) := Lib.hid (by decide)
  go_wp2_with fail
  refine (Add_c _ _ _ _ _ _ _ sx sa ux ua (by omega) (by omega)).mono ?_; rintro e w13 ⟨v1, rfl, hn, hb⟩
  replace sx := sx.below hb
  replace sy := sy.below hb
  replace sz := sz.below hb
  replace sa := sa.below hb
  replace hB := hB.trans (hb.mono hB.size)
  clear hb
  obtain ⟨adI, cpI, zI, rfl, sI, nI, uI, hv⟩ := hn.sl
  have mI := Lim.eq (mx.add ma) hv
  have lI := mI.len nI uI
  have vI := Lib.hid hv
  clear hv
  clear hn
  clear sa
  go_wp2_with fail
  refine (Cmp_c _ _ _ _ _ _ _ sI sx uI ux).mono ?_; rintro e w14 ⟨rfl, hb⟩
  replace sx := sx.below hb.b
  replace sy := sy.below hb.b
  replace sz := sz.below hb.b
  replace sI := sI.below hb.b
  replace hB := hB.trans (hb.b.mono hB.size)
  clear hb
  rw [cmpI_gt (show val xs < val zI by rw [vI.out, va.out]; omega)]
  go_wp2_with fail
  go_ret
  exact ⟨rfl, hB⟩

theorem NatOrder_c (a a' a'' : Option Addr) (cap cap' cap'' : Nat) (xs ys zs : List Int) (w : World) (sx : Sl .u32 w a cap xs) (sy : Sl .u32 w a' cap' ys) (sz : Sl .u32 w a'' cap'' zs) (ux : U32 xs) (uy : U32 ys) (uz : U32 zs) (hl : xs.length + ys.length + zs.length ≤ 1048576) :
    Calls Try.prog 9 #[.slice a xs.length cap, .slice a' ys.length cap', .slice a'' zs.length cap''] w (TruePost w) := by
  rcases Nat.lt_trichotomy (val xs) (val ys) with h1 | h1 | h1 <;> rcases Nat.lt_trichotomy (val ys) (val zs) with h2 | h2 | h2 <;> rcases Nat.eq_zero_or_pos (val zs) with h3 | h3
  · omega
  · exact NatOrder_cllp a a' a'' cap cap' cap'' xs ys zs w sx sy sz ux uy uz hl (Lib.hid h1) (Lib.hid h2) (Lib.hid h3)
  · exact NatOrder_clez a a' a'' cap cap' cap'' xs ys zs w sx sy sz ux uy uz hl (Lib.hid h1) (Lib.hid h2) (Lib.hid h3)
  · exact NatOrder_clep a a' a'' cap cap' cap'' xs ys zs w sx sy sz ux uy uz hl (Lib.hid h1) (Lib.hid h2) (Lib.hid h3)
  · exact NatOrder_clgz a a' a'' cap cap' cap'' xs ys zs w sx sy sz ux uy uz hl (Lib.hid h1) (Lib.hid h2) (Lib.hid h3)
  · exact NatOrder_clgp a a' a'' cap cap' cap'' xs ys zs w sx sy sz ux uy uz hl (Lib.hid h1) (Lib.hid h2) (Lib.hid h3)
  · omega
  · exact NatOrder_celp a a' a'' cap cap' cap'' xs ys zs w sx sy sz ux uy uz hl (Lib.hid h1) (Lib.hid h2) (Lib.hid h3)
  · exact NatOrder_ceez a a' a'' cap cap' cap'' xs ys zs w sx sy sz ux uy uz hl (Lib.hid h1) (Lib.hid h2) (Lib.hid h3)
  · exact NatOrder_ceep a a' a'' cap cap' cap'' xs ys zs w sx sy sz ux uy uz hl (Lib.hid h1) (Lib.hid h2) (Lib.hid h3)
  · exact NatOrder_cegz a a' a'' cap cap' cap'' xs ys zs w sx sy sz ux uy uz hl (Lib.hid h1) (Lib.hid h2) (Lib.hid h3)
  · exact NatOrder_cegp a a' a'' cap cap' cap'' xs ys zs w sx sy sz ux uy uz hl (Lib.hid h1) (Lib.hid h2) (Lib.hid h3)
  · omega
  · exact NatOrder_cglp a a' a'' cap cap' cap'' xs ys zs w sx sy sz ux uy uz hl (Lib.hid h1) (Lib.hid h2) (Lib.hid h3)
  · exact NatOrder_cgez a a' a'' cap cap' cap'' xs ys zs w sx sy sz ux uy uz hl (Lib.hid h1) (Lib.hid h2) (Lib.hid h3)
  · exact NatOrder_cgep a a' a'' cap cap' cap'' xs ys zs w sx sy sz ux uy uz hl (Lib.hid h1) (Lib.hid h2) (Lib.hid h3)
  · exact NatOrder_cggz a a' a'' cap cap' cap'' xs ys zs w sx sy sz ux uy uz hl (Lib.hid h1) (Lib.hid h2) (Lib.hid h3)
  · exact NatOrder_cggp a a' a'' cap cap' cap'' xs ys zs w sx sy sz ux uy uz hl (Lib.hid h1) (Lib.hid h2) (Lib.hid h3)
end Go.Proofs.Ytadldaidbcdaeaa
