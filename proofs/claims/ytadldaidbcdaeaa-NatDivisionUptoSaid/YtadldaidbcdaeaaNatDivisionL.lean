/- signetlaw6.NatDivision, its walk. -/
import Derived.Test.YtadldaidbcdaeaaLawSixB
set_option linter.unusedVariables false
set_option linter.unusedSimpArgs false
namespace Go.Proofs.Ytadldaidbcdaeaa
open Go.RowKit Go.Sg

theorem div_made {x d y : Nat} (h : y < d) : (x * d + y) / d = x ∧ (x * d + y) % d = y := by
  rw [Nat.mul_comm x d]
  exact ⟨by rw [Nat.mul_add_div (by omega), Nat.div_eq_of_lt h, Nat.add_zero], by rw [Nat.mul_add_mod, Nat.mod_eq_of_lt h]⟩


set_option maxHeartbeats 8000000 in
set_option maxRecDepth 100000 in
theorem NatDivision_z (a a' a'' a3 : Option Addr) (cap cap' cap'' c3 : Nat) (xs ys zs ts : List Int) (w : World) (sx : Sl .u32 w a cap xs) (sy : Sl .u32 w a' cap' ys) (sz : Sl .u32 w a'' cap'' zs) (st : Sl .u32 w a3 c3 ts) (ux : U32 xs) (uy : U32 ys) (uz : U32 zs) (ut : U32 ts) (hl : xs.length + ys.length + zs.length + ts.length ≤ 1048576)
    (hd : Hid (val ys = 0)) :
    Calls Try.prog 7 #[.slice a xs.length cap, .slice a' ys.length cap', .slice a'' zs.length cap'', .slice a3 ts.length c3] w (TruePost w) := by
  have mx : Lim 1048576 (val xs) := .of_list ux (by omega)
  have my : Lim 1048576 (val ys) := .of_list uy (by omega)
  have mz : Lim 1048576 (val zs) := .of_list uz (by omega)
  have mt : Lim 1048576 (val ts) := .of_list ut (by omega)
  go_enter Try.func7, Try.ntmps7
  have hB := Below.refl w.heap.size w
  go_wp2_with fail
  refine (alive_c _).mono ?_; rintro e w1 ⟨rfl, hb⟩
  replace sx := sx.below hb
  replace sy := sy.below hb
  replace sz := sz.below hb
  replace st := st.below hb
  replace hB := hB.trans (hb.mono hB.size)
  clear hb
  go_wp2_with fail
  refine (DivMod_c _ _ _ _ _ _ _ sx sy ux uy (by omega) (by omega)).mono ?_; rintro e w2 hp
  obtain ⟨adQ, cpQ, zQ, adR, cpR, zR, rfl, sQ, nQ, uQ, sR, nR, uR, hvp, hvz, hb⟩ := hp.sl
  replace sx := sx.below hb
  replace sy := sy.below hb
  replace sz := sz.below hb
  replace st := st.below hb
  replace hB := hB.trans (hb.mono hB.size)
  clear hb hp
  obtain ⟨rfl, rfl⟩ := hvz hd.out
  rw [if_pos hd.out]
  obtain ⟨bc, hbl⟩ : ∃ bc, bc = bl (val ys) := ⟨_, rfl⟩
  obtain rfl : bc = 0 := by rw [hbl, hd.out]; rfl
  have HBL := Lib.hid hbl
  clear hbl hvz hvp
  go_wp2_with fail
  refine (Bits_c _ _ _ _ sy uy (by omega)).mono ?_; rintro e w3 ⟨rfl, rfl⟩
  rw [← HBL.out]
  go_wp2_with fail
  go_ret
  exact ⟨rfl, hB⟩

set_option maxHeartbeats 8000000 in
set_option maxRecDepth 100000 in
theorem NatDivision_l (a a' a'' a3 : Option Addr) (cap cap' cap'' c3 : Nat) (xs ys zs ts : List Int) (w : World) (sx : Sl .u32 w a cap xs) (sy : Sl .u32 w a' cap' ys) (sz : Sl .u32 w a'' cap'' zs) (st : Sl .u32 w a3 c3 ts) (ux : U32 xs) (uy : U32 ys) (uz : U32 zs) (ut : U32 ts) (hl : xs.length + ys.length + zs.length + ts.length ≤ 1048576)
    (hd : Hid (0 < val ys)) (ht : Hid (val ts < val ys)) :
    Calls Try.prog 7 #[.slice a xs.length cap, .slice a' ys.length cap', .slice a'' zs.length cap'', .slice a3 ts.length c3] w (TruePost w) := by
  have mx : Lim 1048576 (val xs) := .of_list ux (by omega)
  have my : Lim 1048576 (val ys) := .of_list uy (by omega)
  have mz : Lim 1048576 (val zs) := .of_list uz (by omega)
  have mt : Lim 1048576 (val ts) := .of_list ut (by omega)
  go_enter Try.func7, Try.ntmps7
  have hB := Below.refl w.heap.size w
  go_wp2_with fail
  refine (alive_c _).mono ?_; rintro e w1 ⟨rfl, hb⟩
  replace sx := sx.below hb
  replace sy := sy.below hb
  replace sz := sz.below hb
  replace st := st.below hb
  replace hB := hB.trans (hb.mono hB.size)
  clear hb
  go_wp2_with fail
  refine (DivMod_c _ _ _ _ _ _ _ sx sy ux uy (by omega) (by omega)).mono ?_; rintro e w2 hp
  obtain ⟨adQ, cpQ, zQ, adR, cpR, zR, rfl, sQ, nQ, uQ, sR, nR, uR, hvp, hvz, hb⟩ := hp.sl
  replace sx := sx.below hb
  replace sy := sy.below hb
  replace sz := sz.below hb
  replace st := st.below hb
  replace hB := hB.trans (hb.mono hB.size)
  clear hb hp
  obtain ⟨hv, hv'⟩ := hvp (hd.out)
  rw [if_neg (Nat.pos_iff_ne_zero.1 (hd.out))]
  have mQ := Lim.eq (mx.le (Nat.div_le_self _ _)) hv
  have mR := Lim.eq (mx.le (Nat.mod_le _ _)) hv'
  have lQ := mQ.len nQ uQ
  have lR := mR.len nR uR
  have vQ := Lib.hid hv
  have vR := Lib.hid hv'
  clear hv hv' hvp hvz
  obtain ⟨bc, hbl⟩ : ∃ bc, bc = bl (val ys) := ⟨_, rfl⟩
  have hbp : (1 : Int) ≤ (bc : Int) := by have := bl_pos (Nat.pos_iff_ne_zero.1 hd.out); omega
  have hbz : ((bc : Int) == 0) = false := by simp; omega
  have HBL := Lib.hid hbl
  clear hbl
  go_wp2_with fail
  refine (Bits_c _ _ _ _ sy uy (by omega)).mono ?_; rintro e w3 ⟨rfl, rfl⟩
  rw [← HBL.out]
  go_wp2_with fail
  refine (Mul_c _ _ _ _ _ _ _ sQ sy uQ uy (by omega) (by omega)).mono ?_; rintro e w3 ⟨v1, rfl, hn, hb⟩
  replace sx := sx.below hb
  replace sy := sy.below hb
  replace sz := sz.below hb
  replace st := st.below hb
  replace sQ := sQ.below hb
  replace sR := sR.below hb
  replace hB := hB.trans (hb.mono hB.size)
  clear hb
  obtain ⟨adM, cpM, zM, rfl, sM, nM, uM, hv⟩ := hn.sl
  have mM := Lim.eq (mQ.mul my) hv
  have lM := mM.len nM uM
  have vM := Lib.hid hv
  clear hv
  clear hn
  go_wp2_with fail
  refine (Add_c _ _ _ _ _ _ _ sM sR uM uR (by omega) (by omega)).mono ?_; rintro e w4 ⟨v1, rfl, hn, hb⟩
  replace sx := sx.below hb
  replace sy := sy.below hb
  replace sz := sz.below hb
  replace st := st.below hb
  replace sQ := sQ.below hb
  replace sR := sR.below hb
  replace sM := sM.below hb
  replace hB := hB.trans (hb.mono hB.size)
  clear hb
  obtain ⟨adW, cpW, zW, rfl, sW, nW, uW, hv⟩ := hn.sl
  have mW := Lim.eq (mM.add mR) hv
  have lW := mW.len nW uW
  have vW := Lib.hid hv
  clear hv
  clear hn
  go_wp2_with fail
  refine (Cmp_c _ _ _ _ _ _ _ sR sy uR uy).mono ?_; rintro e w5 ⟨rfl, hb⟩
  replace sx := sx.below hb.b
  replace sy := sy.below hb.b
  replace sz := sz.below hb.b
  replace st := st.below hb.b
  replace sQ := sQ.below hb.b
  replace sR := sR.below hb.b
  replace sM := sM.below hb.b
  replace sW := sW.below hb.b
  replace hB := hB.trans (hb.b.mono hB.size)
  clear hb
  rw [cmpI_lt (show val zR < val ys by rw [vR.out]; exact Nat.mod_lt _ hd.out)]
  go_wp2_with fail
  refine (Cmp_c _ _ _ _ _ _ _ sW sx uW ux).mono ?_; rintro e w6 ⟨rfl, hb⟩
  replace sx := sx.below hb.b
  replace sy := sy.below hb.b
  replace sz := sz.below hb.b
  replace st := st.below hb.b
  replace sQ := sQ.below hb.b
  replace sR := sR.below hb.b
  replace sM := sM.below hb.b
  replace sW := sW.below hb.b
  replace hB := hB.trans (hb.b.mono hB.size)
  clear hb
  rw [cmpI_eq (show val zW = val xs by rw [vW.out, vM.out, vQ.out, vR.out, Nat.mul_comm]; exact Nat.div_add_mod _ _)]
  clear sM
  clear sW
  clear sQ
  clear sR
  go_wp2_with fail
  refine (Cmp_c _ _ _ _ _ _ _ st sy ut uy).mono ?_; rintro e w7 ⟨rfl, hb⟩
  replace sx := sx.below hb.b
  replace sy := sy.below hb.b
  replace sz := sz.below hb.b
  replace st := st.below hb.b
  replace hB := hB.trans (hb.b.mono hB.size)
  clear hb
  rw [cmpI_lt ht.out]
  go_wp2_with fail
  refine (Mul_c _ _ _ _ _ _ _ sz sy uz uy (by omega) (by omega)).mono ?_; rintro e w8 ⟨v1, rfl, hn, hb⟩
  replace sx := sx.below hb
  replace sy := sy.below hb
  replace sz := sz.below hb
  replace st := st.below hb
  replace hB := hB.trans (hb.mono hB.size)
  clear hb
  obtain ⟨adK, cpK, zK, rfl, sK, nK, uK, hv⟩ := hn.sl
  have mK := Lim.eq (mz.mul my) hv
  have lK := mK.len nK uK
  have vK := Lib.hid hv
  clear hv
  clear hn
  go_wp2_with fail
  refine (Add_c _ _ _ _ _ _ _ sK st uK ut (by omega) (by omega)).mono ?_; rintro e w9 ⟨v1, rfl, hn, hb⟩
  replace sx := sx.below hb
  replace sy := sy.below hb
  replace sz := sz.below hb
  replace st := st.below hb
  replace sK := sK.below hb
  replace hB := hB.trans (hb.mono hB.size)
  clear hb
  obtain ⟨adU, cpU, zU, rfl, sU, nU, uU, hv⟩ := hn.sl
  have mU := Lim.eq (mK.add mt) hv
  have lU := mU.len nU uU
  have vU := Lib.hid hv
  clear hv
  clear hn
  have hty : Hid (val ts < val ys) := Lib.hid (by exact ht.out)
  have hdm : Hid ((val zU) / val ys = val zs ∧ val zU % val ys = val ts) := Lib.hid (by rw [vU.out, vK.out]; exact div_made hty.out)
  go_wp2_with fail
  refine (DivMod_c _ _ _ _ _ _ _ sU sy uU uy (by omega) (by omega)).mono ?_; rintro e w10 hp
  obtain ⟨adp, cpp, zp, adr, cpr, zr, rfl, sp, np, up, sr, nr, ur, hvp, hvz, hb⟩ := hp.sl
  replace sx := sx.below hb
  replace sy := sy.below hb
  replace sz := sz.below hb
  replace st := st.below hb
  replace sK := sK.below hb
  replace sU := sU.below hb
  replace hB := hB.trans (hb.mono hB.size)
  clear hb hp
  obtain ⟨hv, hv'⟩ := hvp (hd.out)
  rw [if_neg (Nat.pos_iff_ne_zero.1 (hd.out))]
  have mp := Lim.eq (mU.le (Nat.div_le_self _ _)) hv
  have mr := Lim.eq (mU.le (Nat.mod_le _ _)) hv'
  have lp := mp.len np up
  have lr := mr.len nr ur
  have vp := Lib.hid hv
  have vr := Lib.hid hv'
  clear hv hv' hvp hvz
  go_wp2_with fail
  refine (Cmp_c _ _ _ _ _ _ _ sp sz up uz).mono ?_; rintro e w11 ⟨rfl, hb⟩
  replace sx := sx.below hb.b
  replace sy := sy.below hb.b
  replace sz := sz.below hb.b
  replace st := st.below hb.b
  replace sK := sK.below hb.b
  replace sU := sU.below hb.b
  replace sp := sp.below hb.b
  replace sr := sr.below hb.b
  replace hB := hB.trans (hb.b.mono hB.size)
  clear hb
  rw [cmpI_eq (show val zp = val zs by rw [vp.out, hdm.out.1])]
  go_wp2_with fail
  refine (Cmp_c _ _ _ _ _ _ _ sr st ur ut).mono ?_; rintro e w12 ⟨rfl, hb⟩
  replace sx := sx.below hb.b
  replace sy := sy.below hb.b
  replace sz := sz.below hb.b
  replace st := st.below hb.b
  replace sK := sK.below hb.b
  replace sU := sU.below hb.b
  replace sp := sp.below hb.b
  replace sr := sr.below hb.b
  replace hB := hB.trans (hb.b.mono hB.size)
  clear hb
  rw [cmpI_eq (show val zr = val ts by rw [vr.out, hdm.out.2])]
  go_wp2_with fail
  go_ret
  exact ⟨rfl, hB⟩

set_option maxHeartbeats 8000000 in
set_option maxRecDepth 100000 in
theorem NatDivision_g (a a' a'' a3 : Option Addr) (cap cap' cap'' c3 : Nat) (xs ys zs ts : List Int) (w : World) (sx : Sl .u32 w a cap xs) (sy : Sl .u32 w a' cap' ys) (sz : Sl .u32 w a'' cap'' zs) (st : Sl .u32 w a3 c3 ts) (ux : U32 xs) (uy : U32 ys) (uz : U32 zs) (ut : U32 ts) (hl : xs.length + ys.length + zs.length + ts.length ≤ 1048576)
    (hd : Hid (0 < val ys)) (ht : Hid (val ys ≤ val ts)) :
    Calls Try.prog 7 #[.slice a xs.length cap, .slice a' ys.length cap', .slice a'' zs.length cap'', .slice a3 ts.length c3] w (TruePost w) := by
  have mx : Lim 1048576 (val xs) := .of_list ux (by omega)
  have my : Lim 1048576 (val ys) := .of_list uy (by omega)
  have mz : Lim 1048576 (val zs) := .of_list uz (by omega)
  have mt : Lim 1048576 (val ts) := .of_list ut (by omega)
  go_enter Try.func7, Try.ntmps7
  have hB := Below.refl w.heap.size w
  go_wp2_with fail
  refine (alive_c _).mono ?_; rintro e w1 ⟨rfl, hb⟩
  replace sx := sx.below hb
  replace sy := sy.below hb
  replace sz := sz.below hb
  replace st := st.below hb
  replace hB := hB.trans (hb.mono hB.size)
  clear hb
  go_wp2_with fail
  refine (DivMod_c _ _ _ _ _ _ _ sx sy ux uy (by omega) (by omega)).mono ?_; rintro e w2 hp
  obtain ⟨adQ, cpQ, zQ, adR, cpR, zR, rfl, sQ, nQ, uQ, sR, nR, uR, hvp, hvz, hb⟩ := hp.sl
  replace sx := sx.below hb
  replace sy := sy.below hb
  replace sz := sz.below hb
  replace st := st.below hb
  replace hB := hB.trans (hb.mono hB.size)
  clear hb hp
  obtain ⟨hv, hv'⟩ := hvp (hd.out)
  rw [if_neg (Nat.pos_iff_ne_zero.1 (hd.out))]
  have mQ := Lim.eq (mx.le (Nat.div_le_self _ _)) hv
  have mR := Lim.eq (mx.le (Nat.mod_le _ _)) hv'
  have lQ := mQ.len nQ uQ
  have lR := mR.len nR uR
  have vQ := Lib.hid hv
  have vR := Lib.hid hv'
  clear hv hv' hvp hvz
  obtain ⟨bc, hbl⟩ : ∃ bc, bc = bl (val ys) := ⟨_, rfl⟩
  have hbp : (1 : Int) ≤ (bc : Int) := by have := bl_pos (Nat.pos_iff_ne_zero.1 hd.out); omega
  have hbz : ((bc : Int) == 0) = false := by simp; omega
  have HBL := Lib.hid hbl
  clear hbl
  go_wp2_with fail
  refine (Bits_c _ _ _ _ sy uy (by omega)).mono ?_; rintro e w3 ⟨rfl, rfl⟩
  rw [← HBL.out]
  go_wp2_with fail
  refine (Mul_c _ _ _ _ _ _ _ sQ sy uQ uy (by omega) (by omega)).mono ?_; rintro e w3 ⟨v1, rfl, hn, hb⟩
  replace sx := sx.below hb
  replace sy := sy.below hb
  replace sz := sz.below hb
  replace st := st.below hb
  replace sQ := sQ.below hb
  replace sR := sR.below hb
  replace hB := hB.trans (hb.mono hB.size)
  clear hb
  obtain ⟨adM, cpM, zM, rfl, sM, nM, uM, hv⟩ := hn.sl
  have mM := Lim.eq (mQ.mul my) hv
  have lM := mM.len nM uM
  have vM := Lib.hid hv
  clear hv
  clear hn
  go_wp2_with fail
  refine (Add_c _ _ _ _ _ _ _ sM sR uM uR (by omega) (by omega)).mono ?_; rintro e w4 ⟨v1, rfl, hn, hb⟩
  replace sx := sx.below hb
  replace sy := sy.below hb
  replace sz := sz.below hb
  replace st := st.below hb
  replace sQ := sQ.below hb
  replace sR := sR.below hb
  replace sM := sM.below hb
  replace hB := hB.trans (hb.mono hB.size)
  clear hb
  obtain ⟨adW, cpW, zW, rfl, sW, nW, uW, hv⟩ := hn.sl
  have mW := Lim.eq (mM.add mR) hv
  have lW := mW.len nW uW
  have vW := Lib.hid hv
  clear hv
  clear hn
  go_wp2_with fail
  refine (Cmp_c _ _ _ _ _ _ _ sR sy uR uy).mono ?_; rintro e w5 ⟨rfl, hb⟩
  replace sx := sx.below hb.b
  replace sy := sy.below hb.b
  replace sz := sz.below hb.b
  replace st := st.below hb.b
  replace sQ := sQ.below hb.b
  replace sR := sR.below hb.b
  replace sM := sM.below hb.b
  replace sW := sW.below hb.b
  replace hB := hB.trans (hb.b.mono hB.size)
  clear hb
  rw [cmpI_lt (show val zR < val ys by rw [vR.out]; exact Nat.mod_lt _ hd.out)]
  go_wp2_with fail
  refine (Cmp_c _ _ _ _ _ _ _ sW sx uW ux).mono ?_; rintro e w6 ⟨rfl, hb⟩
  replace sx := sx.below hb.b
  replace sy := sy.below hb.b
  replace sz := sz.below hb.b
  replace st := st.below hb.b
  replace sQ := sQ.below hb.b
  replace sR := sR.below hb.b
  replace sM := sM.below hb.b
  replace sW := sW.below hb.b
  replace hB := hB.trans (hb.b.mono hB.size)
  clear hb
  rw [cmpI_eq (show val zW = val xs by rw [vW.out, vM.out, vQ.out, vR.out, Nat.mul_comm]; exact Nat.div_add_mod _ _)]
  clear sM
  clear sW
  clear sQ
  clear sR
  go_wp2_with fail
  refine (Cmp_c _ _ _ _ _ _ _ st sy ut uy).mono ?_; rintro e w7 ⟨rfl, hb⟩
  replace sx := sx.below hb.b
  replace sy := sy.below hb.b
  replace sz := sz.below hb.b
  replace st := st.below hb.b
  replace hB := hB.trans (hb.b.mono hB.size)
  clear hb
  have hge : 0 ≤ cmpI (val ts) (val ys) := by have := ht.out; unfold cmpI; rw [if_neg (by omega)]; split <;> omega
  have hrg := cmpI_rng (val ts) (val ys)
  generalize cmpI (val ts) (val ys) = cc at *
  go_wp2_with fail
  refine (DivMod_c _ _ _ _ _ _ _ st sy ut uy (by omega) (by omega)).mono ?_; rintro e w8 hp
  obtain ⟨adB, cpB, zB, adE, cpE, zE, rfl, sB, nB, uB, sE, nE, uE, hvp, hvz, hb⟩ := hp.sl
  replace sx := sx.below hb
  replace sy := sy.below hb
  replace sz := sz.below hb
  replace st := st.below hb
  replace hB := hB.trans (hb.mono hB.size)
  clear hb hp
  obtain ⟨hv, hv'⟩ := hvp (hd.out)
  rw [if_neg (Nat.pos_iff_ne_zero.1 (hd.out))]
  have mB := Lim.eq (mt.le (Nat.div_le_self _ _)) hv
  have mE := Lim.eq (mt.le (Nat.mod_le _ _)) hv'
  have lB := mB.len nB uB
  have lE := mE.len nE uE
  have vB := Lib.hid hv
  have vE := Lib.hid hv'
  clear hv hv' hvp hvz
  go_wp2_with fail
  refine (Mul_c _ _ _ _ _ _ _ sz sy uz uy (by omega) (by omega)).mono ?_; rintro e w9 ⟨v1, rfl, hn, hb⟩
  replace sx := sx.below hb
  replace sy := sy.below hb
  replace sz := sz.below hb
  replace st := st.below hb
  replace sB := sB.below hb
  replace sE := sE.below hb
  replace hB := hB.trans (hb.mono hB.size)
  clear hb
  obtain ⟨adK, cpK, zK, rfl, sK, nK, uK, hv⟩ := hn.sl
  have mK := Lim.eq (mz.mul my) hv
  have lK := mK.len nK uK
  have vK := Lib.hid hv
  clear hv
  clear hn
  go_wp2_with fail
  refine (Add_c _ _ _ _ _ _ _ sK sE uK uE (by omega) (by omega)).mono ?_; rintro e w10 ⟨v1, rfl, hn, hb⟩
  replace sx := sx.below hb
  replace sy := sy.below hb
  replace sz := sz.below hb
  replace st := st.below hb
  replace sB := sB.below hb
  replace sE := sE.below hb
  replace sK := sK.below hb
  replace hB := hB.trans (hb.mono hB.size)
  clear hb
  obtain ⟨adU, cpU, zU, rfl, sU, nU, uU, hv⟩ := hn.sl
  have mU := Lim.eq (mK.add mE) hv
  have lU := mU.len nU uU
  have vU := Lib.hid hv
  clear hv
  clear hn
  have hty : Hid (val zE < val ys) := Lib.hid (by rw [vE.out]; exact Nat.mod_lt _ hd.out)
  have hdm : Hid ((val zU) / val ys = val zs ∧ val zU % val ys = val zE) := Lib.hid (by rw [vU.out, vK.out]; exact div_made hty.out)
  go_wp2_with fail
  refine (DivMod_c _ _ _ _ _ _ _ sU sy uU uy (by omega) (by omega)).mono ?_; rintro e w11 hp
  obtain ⟨adp, cpp, zp, adr, cpr, zr, rfl, sp, np, up, sr, nr, ur, hvp, hvz, hb⟩ := hp.sl
  replace sx := sx.below hb
  replace sy := sy.below hb
  replace sz := sz.below hb
  replace st := st.below hb
  replace sB := sB.below hb
  replace sE := sE.below hb
  replace sK := sK.below hb
  replace sU := sU.below hb
  replace hB := hB.trans (hb.mono hB.size)
  clear hb hp
  obtain ⟨hv, hv'⟩ := hvp (hd.out)
  rw [if_neg (Nat.pos_iff_ne_zero.1 (hd.out))]
  have mp := Lim.eq (mU.le (Nat.div_le_self _ _)) hv
  have mr := Lim.eq (mU.le (Nat.mod_le _ _)) hv'
  have lp := mp.len np up
  have lr := mr.len nr ur
  have vp := Lib.hid hv
  have vr := Lib.hid hv'
  clear hv hv' hvp hvz
  go_wp2_with fail
  refine (Cmp_c _ _ _ _ _ _ _ sp sz up uz).mono ?_; rintro e w12 ⟨rfl, hb⟩
  replace sx := sx.below hb.b
  replace sy := sy.below hb.b
  replace sz := sz.below hb.b
  replace st := st.below hb.b
  replace sB := sB.below hb.b
  replace sE := sE.below hb.b
  replace sK := sK.below hb.b
  replace sU := sU.below hb.b
  replace sp := sp.below hb.b
  replace sr := sr.below hb.b
  replace hB := hB.trans (hb.b.mono hB.size)
  clear hb
  rw [cmpI_eq (show val zp = val zs by rw [vp.out, hdm.out.1])]
  go_wp2_with fail
  refine (Cmp_c _ _ _ _ _ _ _ sr sE ur uE).mono ?_; rintro e w13 ⟨rfl, hb⟩
  replace sx := sx.below hb.b
  replace sy := sy.below hb.b
  replace sz := sz.below hb.b
  replace st := st.below hb.b
  replace sB := sB.below hb.b
  replace sE := sE.below hb.b
  replace sK := sK.below hb.b
  replace sU := sU.below hb.b
  replace sp := sp.below hb.b
  replace sr := sr.below hb.b
  replace hB := hB.trans (hb.b.mono hB.size)
  clear hb
  rw [cmpI_eq (show val zr = val zE by rw [vr.out, hdm.out.2])]
  go_wp2_with fail
  go_ret
  exact ⟨rfl, hB⟩

theorem NatDivision_c (a a' a'' a3 : Option Addr) (cap cap' cap'' c3 : Nat) (xs ys zs ts : List Int) (w : World) (sx : Sl .u32 w a cap xs) (sy : Sl .u32 w a' cap' ys) (sz : Sl .u32 w a'' cap'' zs) (st : Sl .u32 w a3 c3 ts) (ux : U32 xs) (uy : U32 ys) (uz : U32 zs) (ut : U32 ts) (hl : xs.length + ys.length + zs.length + ts.length ≤ 1048576) :
    Calls Try.prog 7 #[.slice a xs.length cap, .slice a' ys.length cap', .slice a'' zs.length cap'', .slice a3 ts.length c3] w (TruePost w) := by
  rcases Nat.eq_zero_or_pos (val ys) with h | h
  · exact NatDivision_z a a' a'' a3 cap cap' cap'' c3 xs ys zs ts w sx sy sz st ux uy uz ut hl (Lib.hid h)
  · rcases Nat.lt_or_ge (val ts) (val ys) with h2 | h2
    · exact NatDivision_l a a' a'' a3 cap cap' cap'' c3 xs ys zs ts w sx sy sz st ux uy uz ut hl (Lib.hid h) (Lib.hid h2)
    · exact NatDivision_g a a' a'' a3 cap cap' cap'' c3 xs ys zs ts w sx sy sz st ux uy uz ut hl (Lib.hid h) (Lib.hid h2)
end Go.Proofs.Ytadldaidbcdaeaa
