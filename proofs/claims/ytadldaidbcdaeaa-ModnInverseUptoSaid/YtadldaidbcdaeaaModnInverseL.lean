/- signetlaw7.ModnInverse, its walk. (Printed by gen_modnlaws.py.) -/
import Derived.Test.YtadldaidbcdaeaaLawSevenB
set_option linter.unusedVariables false
set_option linter.unusedSimpArgs false
namespace Go.Sg
theorem inv_unique {x y a m : Nat} (hx : x < m) (hy : y < m) (h1 : x * a % m = 1) (h2 : y * a % m = 1) (hm : 2 ≤ m) : x = y := by
  have c1 : Cg m (((x * a : Nat) : Nat) : Int) ((1 : Nat) : Int) := .of_eq (by rw [h1, Nat.mod_eq_of_lt (show 1 < m by omega)])
  have c2 : Cg m (((y * a : Nat) : Nat) : Int) ((1 : Nat) : Int) := .of_eq (by rw [h2, Nat.mod_eq_of_lt (show 1 < m by omega)])
  rw [Int.natCast_mul] at c1 c2
  have e1 := c1.mul (Cg.refl m (y : Int))
  have e2 := c2.mul (Cg.refl m (x : Int))
  have e3 : ((x : Int) * a) * y = (y * a) * x := by grind
  rw [e3] at e1
  have e4 := e2.symm.trans e1
  have e5 : Cg m (x : Int) (y : Int) := by simpa using e4
  have := e5.eq
  rwa [Nat.mod_eq_of_lt hx, Nat.mod_eq_of_lt hy] at this
theorem coprime_of_inv {x a m : Nat} (h : x * a % m = 1) : Nat.gcd a m = 1 := by
  have h1 : Nat.gcd a m ∣ x * a := Nat.dvd_trans (Nat.gcd_dvd_left a m) (Nat.dvd_mul_left a x)
  have h2 := (Nat.dvd_mod_iff (Nat.gcd_dvd_right a m)).2 h1
  rw [h] at h2
  exact Nat.dvd_one.1 h2
theorem mul_inv {x y a b m : Nat} (h1 : x * a % m = 1) (h2 : y * b % m = 1) (hm : 2 ≤ m) : x * y % m * (a * b % m) % m = 1 := by
  have c1 : Cg m (((x * a : Nat) : Nat) : Int) ((1 : Nat) : Int) := .of_eq (by rw [h1, Nat.mod_eq_of_lt (show 1 < m by omega)])
  have c2 : Cg m (((y * b : Nat) : Nat) : Int) ((1 : Nat) : Int) := .of_eq (by rw [h2, Nat.mod_eq_of_lt (show 1 < m by omega)])
  have e1 := c1.mul c2
  rw [← Int.natCast_mul, ← Int.natCast_mul] at e1
  rw [← Nat.mul_mod, show x * y * (a * b) = x * a * (y * b) by grind, e1.eq]
  exact Nat.mod_eq_of_lt (by omega)
theorem back_inv {x a m : Nat} (h : x * a % m = 1) : a % m * x % m = 1 := by
  rw [Nat.mod_mul_mod, Nat.mul_comm]; exact h
end Go.Sg
namespace Go.Proofs.Ytadldaidbcdaeaa
open Go.RowKit Go.Sg


set_option maxHeartbeats 16000000 in
set_option maxRecDepth 100000 in
theorem ModnInverse_no {va vb vm : Value} {a b m : Nat} {w : World} (na : NumAt w va a) (nb : NumAt w vb b) (nm : NumAt w vm m) (la : Lim 1048576 a) (lb : Lim 1048576 b) (lm : Lim 1048576 m) {code : Int} (ec : wrongN [a, 0, m] = code) (no : code ≠ 0) :
    Calls Try.prog 12 #[va, vb, vm] w (TruePost w) := by
  have g1 : (code == code) = true := by simp
  have g2 : (code != 0) = true := by simpa using no
  have EC := Lib.hid ec
  have NO := Lib.hid no
  clear ec no
  go_enter Try.func12, Try.ntmps12
  have hB := Below.refl w.heap.size w
  go_wp2_with fail
  refine (awake_v _).mono ?_; rintro e w1 ⟨rfl, hb⟩
  replace na := na.below hb
  replace nb := nb.below hb
  replace nm := nm.below hb
  replace hB := hB.trans (hb.mono hB.size)
  clear hb
  go_wp2_with fail
  refine (mInv_no na nm EC.out NO.out).mono ?_; rintro e w2 ⟨rfl, hb⟩
  replace na := na.below hb
  replace nb := nb.below hb
  replace nm := nm.below hb
  replace hB := hB.trans (hb.mono hB.size)
  clear hb
  go_wp2_with fail
  refine (refuses_v na (num_nil _) nm).mono ?_; rintro e w' ⟨rfl, rfl⟩
  rw [EC.out]
  go_wp2_with fail
  go_ret
  exact ⟨rfl, hB⟩

set_option maxHeartbeats 16000000 in
set_option maxRecDepth 100000 in
theorem ModnInverse_none {va vb vm : Value} {a b m : Nat} {w : World} (na : NumAt w va a) (nb : NumAt w vb b) (nm : NumAt w vm m) (la : Lim 1048576 a) (lb : Lim 1048576 b) (lm : Lim 1048576 m) (ok : Ok3 a 0 m) (hg : Nat.gcd a m ≠ 1) :
    Calls Try.prog 12 #[va, vb, vm] w (TruePost w) := by
  have OK := Lib.hid ok
  have m0 : Hid (0 < m) := Lib.hid (by have := ok.two; omega)
  have HG := Lib.hid hg
  have g1 : Hid (1 < Nat.gcd m a) := Lib.hid (by rw [Nat.gcd_comm]; have := Nat.gcd_pos_of_pos_right a m0.out; omega)
  clear ok hg
  go_enter Try.func12, Try.ntmps12
  have hB := Below.refl w.heap.size w
  go_wp2_with fail
  refine (awake_v _).mono ?_; rintro e w1 ⟨rfl, hb⟩
  replace na := na.below hb
  replace nb := nb.below hb
  replace nm := nm.below hb
  replace hB := hB.trans (hb.mono hB.size)
  clear hb
  go_wp2_with fail
  refine (mInv_none na nm OK.out HG.out).mono ?_; rintro e w2 ⟨rfl, hb⟩
  replace na := na.below hb
  replace nb := nb.below hb
  replace nm := nm.below hb
  replace hB := hB.trans (hb.mono hB.size)
  clear hb
  go_wp2_with fail
  refine (refuses_v na (num_nil _) nm).mono ?_; rintro e w' ⟨rfl, rfl⟩
  rw [OK.out.code]
  go_wp2_with fail
  refine (divisor_v nm na).mono ?_; rintro e w3 ⟨vg, rfl, ng, hb⟩
  replace na := na.below hb
  replace nb := nb.below hb
  replace nm := nm.below hb
  replace hB := hB.trans (hb.mono hB.size)
  clear hb
  have hb := below_one w3 (.cells #[.int .u32 1] 52)
  replace na := na.below hb
  replace nb := nb.below hb
  replace nm := nm.below hb
  replace ng := ng.below hb
  replace hB := hB.trans (hb.mono hB.size)
  clear hb
  have co := can_lit w3 (w3.heap.size) 1 1 rfl (by simp) (by omega) (by omega)
  go_wp2_with fail
  refine (cmp_v ng co.num).mono ?_; rintro e w4 ⟨rfl, hb⟩
  replace na := na.below hb.b
  replace nb := nb.below hb.b
  replace nm := nm.below hb.b
  replace ng := ng.below hb.b
  replace co := co.below hb.b
  replace hB := hB.trans (hb.b.mono hB.size)
  clear hb
  rw [cmpI_gt g1.out]
  go_wp2_with fail
  go_ret
  exact ⟨rfl, hB⟩

set_option maxHeartbeats 16000000 in
set_option maxRecDepth 100000 in
theorem ModnInverse_b {va vb vm : Value} {a b m : Nat} {w : World} (na : NumAt w va a) (nb : NumAt w vb b) (nm : NumAt w vm m) (la : Lim 1048576 a) (lb : Lim 1048576 b) (lm : Lim 1048576 m) (ok : Ok3 a 0 m) (hg : Nat.gcd a m = 1) {code : Int} (ec : wrongN [b, 0, m] = code) (no : code ≠ 0) :
    Calls Try.prog 12 #[va, vb, vm] w (TruePost w) := by
  have g9 : (code != 0) = true := by simpa using no
  have EC := Lib.hid ec
  have NO := Lib.hid no
  clear ec no
  have OK := Lib.hid ok
  have m0 : Hid (0 < m) := Lib.hid (by have := ok.two; omega)
  have HG := Lib.hid hg
  have g1 : Hid (Nat.gcd m a = 1) := Lib.hid (by rw [Nat.gcd_comm]; exact hg)
  have m2 := Lib.hid ok.two
  clear ok hg
  go_enter Try.func12, Try.ntmps12
  have hB := Below.refl w.heap.size w
  go_wp2_with fail
  refine (awake_v _).mono ?_; rintro e w1 ⟨rfl, hb⟩
  replace na := na.below hb
  replace nb := nb.below hb
  replace nm := nm.below hb
  replace hB := hB.trans (hb.mono hB.size)
  clear hb
  go_wp2_with fail
  refine (mInv_ok na nm OK.out HG.out).mono ?_; rintro e w2 ⟨vx, x, rfl, cx, hxm, hx1, hb⟩
  replace na := na.below hb
  replace nb := nb.below hb
  replace nm := nm.below hb
  replace hB := hB.trans (hb.mono hB.size)
  clear hb
  have XM := Lib.hid hxm
  have X1 := Lib.hid hx1
  clear hxm hx1
  go_wp2_with fail
  refine (refuses_v na (num_nil _) nm).mono ?_; rintro e w' ⟨rfl, rfl⟩
  rw [OK.out.code]
  go_wp2_with fail
  refine (divisor_v nm na).mono ?_; rintro e w3 ⟨vg, rfl, ng, hb⟩
  replace na := na.below hb
  replace nb := nb.below hb
  replace nm := nm.below hb
  replace cx := cx.below hb
  replace hB := hB.trans (hb.mono hB.size)
  clear hb
  have okx : Hid (Ok3 x a m) := Lib.hid ⟨bigB_le (Nat.le_of_lt XM.out) OK.out.pm, OK.out.pa, OK.out.pm, OK.out.two⟩
  go_wp2_with fail
  refine (mMul_ok cx.num na nm okx.out).mono ?_; rintro e w4 ⟨vp, rfl, cp, hb⟩
  replace na := na.below hb
  replace nb := nb.below hb
  replace nm := nm.below hb
  replace cx := cx.below hb
  replace ng := ng.below hb
  replace hB := hB.trans (hb.mono hB.size)
  clear hb
  have hb := below_one w4 (.cells #[.int .u32 1] 52)
  replace na := na.below hb
  replace nb := nb.below hb
  replace nm := nm.below hb
  replace cx := cx.below hb
  replace ng := ng.below hb
  replace cp := cp.below hb
  replace hB := hB.trans (hb.mono hB.size)
  clear hb
  have co := can_lit w4 (w4.heap.size) 1 1 rfl (by simp) (by omega) (by omega)
  go_wp2_with fail
  refine (same_yes cp co X1.out).mono ?_; rintro e w5 ⟨rfl, hb⟩
  replace na := na.below hb.b
  replace nb := nb.below hb.b
  replace nm := nm.below hb.b
  replace cx := cx.below hb.b
  replace ng := ng.below hb.b
  replace cp := cp.below hb.b
  replace co := co.below hb.b
  replace hB := hB.trans (hb.b.mono hB.size)
  clear hb
  clear cp
  clear co
  go_wp2_with fail
  refine (cmp_v cx.num nm).mono ?_; rintro e w6 ⟨rfl, hb⟩
  replace na := na.below hb.b
  replace nb := nb.below hb.b
  replace nm := nm.below hb.b
  replace cx := cx.below hb.b
  replace ng := ng.below hb.b
  replace hB := hB.trans (hb.b.mono hB.size)
  clear hb
  rw [cmpI_lt XM.out]
  have hb := below_one w6 (.cells #[.int .u32 1] 52)
  replace na := na.below hb
  replace nb := nb.below hb
  replace nm := nm.below hb
  replace cx := cx.below hb
  replace ng := ng.below hb
  replace hB := hB.trans (hb.mono hB.size)
  clear hb
  have co := can_lit w6 (w6.heap.size) 1 1 rfl (by simp) (by omega) (by omega)
  go_wp2_with fail
  refine (cmp_v ng co.num).mono ?_; rintro e w7 ⟨rfl, hb⟩
  replace na := na.below hb.b
  replace nb := nb.below hb.b
  replace nm := nm.below hb.b
  replace cx := cx.below hb.b
  replace ng := ng.below hb.b
  replace co := co.below hb.b
  replace hB := hB.trans (hb.b.mono hB.size)
  clear hb
  rw [cmpI_eq g1.out]
  clear co
  clear ng
  have okx0 : Hid (Ok3 x 0 m) := Lib.hid ⟨bigB_le (Nat.le_of_lt XM.out) OK.out.pm, rfl, OK.out.pm, OK.out.two⟩
  have HGX : Hid (Nat.gcd x m = 1) := Lib.hid (coprime_of_inv (x := a) (by rw [Nat.mul_comm]; exact X1.out))
  go_wp2_with fail
  refine (mInv_ok cx.num nm okx0.out HGX.out).mono ?_; rintro e w8 ⟨vr, r, rfl, cr, hrm, hr1, hb⟩
  replace na := na.below hb
  replace nb := nb.below hb
  replace nm := nm.below hb
  replace cx := cx.below hb
  replace hB := hB.trans (hb.mono hB.size)
  clear hb
  have hra : Hid (r = a % m) := Lib.hid (inv_unique hrm (Nat.mod_lt _ m0.out) hr1 (back_inv X1.out) m2.out)
  clear hrm hr1
  go_wp2_with fail
  refine (is_yes cr na nm m0.out hra.out).mono ?_; rintro e w9 ⟨rfl, hb⟩
  replace na := na.below hb
  replace nb := nb.below hb
  replace nm := nm.below hb
  replace cx := cx.below hb
  replace cr := cr.below hb
  replace hB := hB.trans (hb.mono hB.size)
  clear hb
  clear cr
  go_wp2_with fail
  refine (mInv_no nb nm EC.out NO.out).mono ?_; rintro e w10 ⟨rfl, hb⟩
  replace na := na.below hb
  replace nb := nb.below hb
  replace nm := nm.below hb
  replace cx := cx.below hb
  replace hB := hB.trans (hb.mono hB.size)
  clear hb
  go_wp2_with fail
  go_ret
  exact ⟨rfl, hB⟩

set_option maxHeartbeats 16000000 in
set_option maxRecDepth 100000 in
theorem ModnInverse_c2 {va vb vm : Value} {a b m : Nat} {w : World} (na : NumAt w va a) (nb : NumAt w vb b) (nm : NumAt w vm m) (la : Lim 1048576 a) (lb : Lim 1048576 b) (lm : Lim 1048576 m) (ok : Ok3 a 0 m) (hg : Nat.gcd a m = 1) (okb : Ok3 b 0 m) (hgb : Nat.gcd b m ≠ 1) :
    Calls Try.prog 12 #[va, vb, vm] w (TruePost w) := by
  have OKB := Lib.hid okb
  have HGB := Lib.hid hgb
  clear okb hgb
  have OK := Lib.hid ok
  have m0 : Hid (0 < m) := Lib.hid (by have := ok.two; omega)
  have HG := Lib.hid hg
  have g1 : Hid (Nat.gcd m a = 1) := Lib.hid (by rw [Nat.gcd_comm]; exact hg)
  have m2 := Lib.hid ok.two
  clear ok hg
  go_enter Try.func12, Try.ntmps12
  have hB := Below.refl w.heap.size w
  go_wp2_with fail
  refine (awake_v _).mono ?_; rintro e w1 ⟨rfl, hb⟩
  replace na := na.below hb
  replace nb := nb.below hb
  replace nm := nm.below hb
  replace hB := hB.trans (hb.mono hB.size)
  clear hb
  go_wp2_with fail
  refine (mInv_ok na nm OK.out HG.out).mono ?_; rintro e w2 ⟨vx, x, rfl, cx, hxm, hx1, hb⟩
  replace na := na.below hb
  replace nb := nb.below hb
  replace nm := nm.below hb
  replace hB := hB.trans (hb.mono hB.size)
  clear hb
  have XM := Lib.hid hxm
  have X1 := Lib.hid hx1
  clear hxm hx1
  go_wp2_with fail
  refine (refuses_v na (num_nil _) nm).mono ?_; rintro e w' ⟨rfl, rfl⟩
  rw [OK.out.code]
  go_wp2_with fail
  refine (divisor_v nm na).mono ?_; rintro e w3 ⟨vg, rfl, ng, hb⟩
  replace na := na.below hb
  replace nb := nb.below hb
  replace nm := nm.below hb
  replace cx := cx.below hb
  replace hB := hB.trans (hb.mono hB.size)
  clear hb
  have okx : Hid (Ok3 x a m) := Lib.hid ⟨bigB_le (Nat.le_of_lt XM.out) OK.out.pm, OK.out.pa, OK.out.pm, OK.out.two⟩
  go_wp2_with fail
  refine (mMul_ok cx.num na nm okx.out).mono ?_; rintro e w4 ⟨vp, rfl, cp, hb⟩
  replace na := na.below hb
  replace nb := nb.below hb
  replace nm := nm.below hb
  replace cx := cx.below hb
  replace ng := ng.below hb
  replace hB := hB.trans (hb.mono hB.size)
  clear hb
  have hb := below_one w4 (.cells #[.int .u32 1] 52)
  replace na := na.below hb
  replace nb := nb.below hb
  replace nm := nm.below hb
  replace cx := cx.below hb
  replace ng := ng.below hb
  replace cp := cp.below hb
  replace hB := hB.trans (hb.mono hB.size)
  clear hb
  have co := can_lit w4 (w4.heap.size) 1 1 rfl (by simp) (by omega) (by omega)
  go_wp2_with fail
  refine (same_yes cp co X1.out).mono ?_; rintro e w5 ⟨rfl, hb⟩
  replace na := na.below hb.b
  replace nb := nb.below hb.b
  replace nm := nm.below hb.b
  replace cx := cx.below hb.b
  replace ng := ng.below hb.b
  replace cp := cp.below hb.b
  replace co := co.below hb.b
  replace hB := hB.trans (hb.b.mono hB.size)
  clear hb
  clear cp
  clear co
  go_wp2_with fail
  refine (cmp_v cx.num nm).mono ?_; rintro e w6 ⟨rfl, hb⟩
  replace na := na.below hb.b
  replace nb := nb.below hb.b
  replace nm := nm.below hb.b
  replace cx := cx.below hb.b
  replace ng := ng.below hb.b
  replace hB := hB.trans (hb.b.mono hB.size)
  clear hb
  rw [cmpI_lt XM.out]
  have hb := below_one w6 (.cells #[.int .u32 1] 52)
  replace na := na.below hb
  replace nb := nb.below hb
  replace nm := nm.below hb
  replace cx := cx.below hb
  replace ng := ng.below hb
  replace hB := hB.trans (hb.mono hB.size)
  clear hb
  have co := can_lit w6 (w6.heap.size) 1 1 rfl (by simp) (by omega) (by omega)
  go_wp2_with fail
  refine (cmp_v ng co.num).mono ?_; rintro e w7 ⟨rfl, hb⟩
  replace na := na.below hb.b
  replace nb := nb.below hb.b
  replace nm := nm.below hb.b
  replace cx := cx.below hb.b
  replace ng := ng.below hb.b
  replace co := co.below hb.b
  replace hB := hB.trans (hb.b.mono hB.size)
  clear hb
  rw [cmpI_eq g1.out]
  clear co
  clear ng
  have okx0 : Hid (Ok3 x 0 m) := Lib.hid ⟨bigB_le (Nat.le_of_lt XM.out) OK.out.pm, rfl, OK.out.pm, OK.out.two⟩
  have HGX : Hid (Nat.gcd x m = 1) := Lib.hid (coprime_of_inv (x := a) (by rw [Nat.mul_comm]; exact X1.out))
  go_wp2_with fail
  refine (mInv_ok cx.num nm okx0.out HGX.out).mono ?_; rintro e w8 ⟨vr, r, rfl, cr, hrm, hr1, hb⟩
  replace na := na.below hb
  replace nb := nb.below hb
  replace nm := nm.below hb
  replace cx := cx.below hb
  replace hB := hB.trans (hb.mono hB.size)
  clear hb
  have hra : Hid (r = a % m) := Lib.hid (inv_unique hrm (Nat.mod_lt _ m0.out) hr1 (back_inv X1.out) m2.out)
  clear hrm hr1
  go_wp2_with fail
  refine (is_yes cr na nm m0.out hra.out).mono ?_; rintro e w9 ⟨rfl, hb⟩
  replace na := na.below hb
  replace nb := nb.below hb
  replace nm := nm.below hb
  replace cx := cx.below hb
  replace cr := cr.below hb
  replace hB := hB.trans (hb.mono hB.size)
  clear hb
  clear cr
  go_wp2_with fail
  refine (mInv_none nb nm OKB.out HGB.out).mono ?_; rintro e w10 ⟨rfl, hb⟩
  replace na := na.below hb
  replace nb := nb.below hb
  replace nm := nm.below hb
  replace cx := cx.below hb
  replace hB := hB.trans (hb.mono hB.size)
  clear hb
  go_wp2_with fail
  go_ret
  exact ⟨rfl, hB⟩

set_option maxHeartbeats 16000000 in
set_option maxRecDepth 100000 in
theorem ModnInverse_all {va vb vm : Value} {a b m : Nat} {w : World} (na : NumAt w va a) (nb : NumAt w vb b) (nm : NumAt w vm m) (la : Lim 1048576 a) (lb : Lim 1048576 b) (lm : Lim 1048576 m) (ok : Ok3 a 0 m) (hg : Nat.gcd a m = 1) (okb : Ok3 b 0 m) (hgb : Nat.gcd b m = 1) :
    Calls Try.prog 12 #[va, vb, vm] w (TruePost w) := by
  have OKB := Lib.hid okb
  have HGB := Lib.hid hgb
  obtain ⟨q, hq⟩ : ∃ q, q = nl b := ⟨_, rfl⟩
  have hq2 : ¬ 128 < q := by rw [hq]; have := nl_big b; rw [okb.pa] at this; exact of_decide_eq_false this
  have hd : decide ((128 : Int) < (q : Int)) = false := decide_eq_false (by omega)
  have HQ := Lib.hid hq
  clear okb hgb hq hq2
  have OK := Lib.hid ok
  have m0 : Hid (0 < m) := Lib.hid (by have := ok.two; omega)
  have HG := Lib.hid hg
  have g1 : Hid (Nat.gcd m a = 1) := Lib.hid (by rw [Nat.gcd_comm]; exact hg)
  have m2 := Lib.hid ok.two
  clear ok hg
  go_enter Try.func12, Try.ntmps12
  have hB := Below.refl w.heap.size w
  go_wp2_with fail
  refine (awake_v _).mono ?_; rintro e w1 ⟨rfl, hb⟩
  replace na := na.below hb
  replace nb := nb.below hb
  replace nm := nm.below hb
  replace hB := hB.trans (hb.mono hB.size)
  clear hb
  go_wp2_with fail
  refine (mInv_ok na nm OK.out HG.out).mono ?_; rintro e w2 ⟨vx, x, rfl, cx, hxm, hx1, hb⟩
  replace na := na.below hb
  replace nb := nb.below hb
  replace nm := nm.below hb
  replace hB := hB.trans (hb.mono hB.size)
  clear hb
  have XM := Lib.hid hxm
  have X1 := Lib.hid hx1
  clear hxm hx1
  go_wp2_with fail
  refine (refuses_v na (num_nil _) nm).mono ?_; rintro e w' ⟨rfl, rfl⟩
  rw [OK.out.code]
  go_wp2_with fail
  refine (divisor_v nm na).mono ?_; rintro e w3 ⟨vg, rfl, ng, hb⟩
  replace na := na.below hb
  replace nb := nb.below hb
  replace nm := nm.below hb
  replace cx := cx.below hb
  replace hB := hB.trans (hb.mono hB.size)
  clear hb
  have okx : Hid (Ok3 x a m) := Lib.hid ⟨bigB_le (Nat.le_of_lt XM.out) OK.out.pm, OK.out.pa, OK.out.pm, OK.out.two⟩
  go_wp2_with fail
  refine (mMul_ok cx.num na nm okx.out).mono ?_; rintro e w4 ⟨vp, rfl, cp, hb⟩
  replace na := na.below hb
  replace nb := nb.below hb
  replace nm := nm.below hb
  replace cx := cx.below hb
  replace ng := ng.below hb
  replace hB := hB.trans (hb.mono hB.size)
  clear hb
  have hb := below_one w4 (.cells #[.int .u32 1] 52)
  replace na := na.below hb
  replace nb := nb.below hb
  replace nm := nm.below hb
  replace cx := cx.below hb
  replace ng := ng.below hb
  replace cp := cp.below hb
  replace hB := hB.trans (hb.mono hB.size)
  clear hb
  have co := can_lit w4 (w4.heap.size) 1 1 rfl (by simp) (by omega) (by omega)
  go_wp2_with fail
  refine (same_yes cp co X1.out).mono ?_; rintro e w5 ⟨rfl, hb⟩
  replace na := na.below hb.b
  replace nb := nb.below hb.b
  replace nm := nm.below hb.b
  replace cx := cx.below hb.b
  replace ng := ng.below hb.b
  replace cp := cp.below hb.b
  replace co := co.below hb.b
  replace hB := hB.trans (hb.b.mono hB.size)
  clear hb
  clear cp
  clear co
  go_wp2_with fail
  refine (cmp_v cx.num nm).mono ?_; rintro e w6 ⟨rfl, hb⟩
  replace na := na.below hb.b
  replace nb := nb.below hb.b
  replace nm := nm.below hb.b
  replace cx := cx.below hb.b
  replace ng := ng.below hb.b
  replace hB := hB.trans (hb.b.mono hB.size)
  clear hb
  rw [cmpI_lt XM.out]
  have hb := below_one w6 (.cells #[.int .u32 1] 52)
  replace na := na.below hb
  replace nb := nb.below hb
  replace nm := nm.below hb
  replace cx := cx.below hb
  replace ng := ng.below hb
  replace hB := hB.trans (hb.mono hB.size)
  clear hb
  have co := can_lit w6 (w6.heap.size) 1 1 rfl (by simp) (by omega) (by omega)
  go_wp2_with fail
  refine (cmp_v ng co.num).mono ?_; rintro e w7 ⟨rfl, hb⟩
  replace na := na.below hb.b
  replace nb := nb.below hb.b
  replace nm := nm.below hb.b
  replace cx := cx.below hb.b
  replace ng := ng.below hb.b
  replace co := co.below hb.b
  replace hB := hB.trans (hb.b.mono hB.size)
  clear hb
  rw [cmpI_eq g1.out]
  clear co
  clear ng
  have okx0 : Hid (Ok3 x 0 m) := Lib.hid ⟨bigB_le (Nat.le_of_lt XM.out) OK.out.pm, rfl, OK.out.pm, OK.out.two⟩
  have HGX : Hid (Nat.gcd x m = 1) := Lib.hid (coprime_of_inv (x := a) (by rw [Nat.mul_comm]; exact X1.out))
  go_wp2_with fail
  refine (mInv_ok cx.num nm okx0.out HGX.out).mono ?_; rintro e w8 ⟨vr, r, rfl, cr, hrm, hr1, hb⟩
  replace na := na.below hb
  replace nb := nb.below hb
  replace nm := nm.below hb
  replace cx := cx.below hb
  replace hB := hB.trans (hb.mono hB.size)
  clear hb
  have hra : Hid (r = a % m) := Lib.hid (inv_unique hrm (Nat.mod_lt _ m0.out) hr1 (back_inv X1.out) m2.out)
  clear hrm hr1
  go_wp2_with fail
  refine (is_yes cr na nm m0.out hra.out).mono ?_; rintro e w9 ⟨rfl, hb⟩
  replace na := na.below hb
  replace nb := nb.below hb
  replace nm := nm.below hb
  replace cx := cx.below hb
  replace cr := cr.below hb
  replace hB := hB.trans (hb.mono hB.size)
  clear hb
  clear cr
  go_wp2_with fail
  refine (mInv_ok nb nm OKB.out HGB.out).mono ?_; rintro e w10 ⟨vy, y, rfl, cy, hym, hy1, hb⟩
  replace na := na.below hb
  replace nb := nb.below hb
  replace nm := nm.below hb
  replace cx := cx.below hb
  replace hB := hB.trans (hb.mono hB.size)
  clear hb
  have YM := Lib.hid hym
  have Y1 := Lib.hid hy1
  clear hym hy1
  go_wp2_with fail
  refine (limbs_v nb).mono ?_; rintro e w' ⟨rfl, rfl⟩
  rw [← HQ.out]
  have okab : Hid (Ok3 a b m) := Lib.hid ⟨OK.out.pa, OKB.out.pa, OK.out.pm, OK.out.two⟩
  go_wp2_with fail
  refine (mMul_ok na nb nm okab.out).mono ?_; rintro e w11 ⟨vq, rfl, cq, hb⟩
  replace na := na.below hb
  replace nb := nb.below hb
  replace nm := nm.below hb
  replace cx := cx.below hb
  replace cy := cy.below hb
  replace hB := hB.trans (hb.mono hB.size)
  clear hb
  have okq : Hid (Ok3 (a * b % m) 0 m) := Lib.hid ⟨okab.out.rest _, rfl, OK.out.pm, OK.out.two⟩
  have W1 : Hid (x * y % m * (a * b % m) % m = 1) := Lib.hid (mul_inv X1.out Y1.out m2.out)
  have HGQ : Hid (Nat.gcd (a * b % m) m = 1) := Lib.hid (coprime_of_inv W1.out)
  go_wp2_with fail
  refine (mInv_ok cq.num nm okq.out HGQ.out).mono ?_; rintro e w12 ⟨vz, z, rfl, cz, hzm, hz1, hb⟩
  replace na := na.below hb
  replace nb := nb.below hb
  replace nm := nm.below hb
  replace cx := cx.below hb
  replace cy := cy.below hb
  replace cq := cq.below hb
  replace hB := hB.trans (hb.mono hB.size)
  clear hb
  have hzw : Hid (z = x * y % m) := Lib.hid (inv_unique hzm (Nat.mod_lt _ m0.out) hz1 W1.out m2.out)
  clear hzm hz1
  have okxy : Hid (Ok3 x y m) := Lib.hid ⟨bigB_le (Nat.le_of_lt XM.out) OK.out.pm, bigB_le (Nat.le_of_lt YM.out) OK.out.pm, OK.out.pm, OK.out.two⟩
  go_wp2_with fail
  refine (mMul_ok cx.num cy.num nm okxy.out).mono ?_; rintro e w13 ⟨vw, rfl, cw, hb⟩
  replace na := na.below hb
  replace nb := nb.below hb
  replace nm := nm.below hb
  replace cx := cx.below hb
  replace cy := cy.below hb
  replace cq := cq.below hb
  replace cz := cz.below hb
  replace hB := hB.trans (hb.mono hB.size)
  clear hb
  go_wp2_with fail
  refine (same_yes cz cw hzw.out).mono ?_; rintro e w14 ⟨rfl, hb⟩
  replace na := na.below hb.b
  replace nb := nb.below hb.b
  replace nm := nm.below hb.b
  replace cx := cx.below hb.b
  replace cy := cy.below hb.b
  replace cq := cq.below hb.b
  replace cz := cz.below hb.b
  replace cw := cw.below hb.b
  replace hB := hB.trans (hb.b.mono hB.size)
  clear hb
  go_wp2_with fail
  go_ret
  exact ⟨rfl, hB⟩

set_option maxHeartbeats 16000000 in
set_option maxRecDepth 100000 in
theorem ModnInverse_v {va vb vm : Value} {a b m : Nat} {w : World} (na : NumAt w va a) (nb : NumAt w vb b) (nm : NumAt w vm m) (la : Lim 1048576 a) (lb : Lim 1048576 b) (lm : Lim 1048576 m) :
    Calls Try.prog 12 #[va, vb, vm] w (TruePost w) := by
  by_cases h : wrongN [a, 0, m] = 0
  · by_cases hg : Nat.gcd a m = 1
    · by_cases hb : wrongN [b, 0, m] = 0
      · by_cases hgb : Nat.gcd b m = 1
        · exact ModnInverse_all na nb nm la lb lm (.of h) hg (.of hb) hgb
        · exact ModnInverse_c2 na nb nm la lb lm (.of h) hg (.of hb) hgb
      · exact ModnInverse_b na nb nm la lb lm (.of h) hg rfl hb
    · exact ModnInverse_none na nb nm la lb lm (.of h) hg
  · exact ModnInverse_no na nb nm la lb lm rfl h

theorem ModnInverse_c (aa : Option Addr) (pa : Nat) (za : List Int) (ab : Option Addr) (pb : Nat) (zb : List Int) (am : Option Addr) (pm : Nat) (zm : List Int) (w : World) (sa : Sl .u32 w aa pa za) (ua : U32 za) (sb : Sl .u32 w ab pb zb) (ub : U32 zb) (sm : Sl .u32 w am pm zm) (um : U32 zm) (hz : za.length + zb.length + zm.length ≤ 1048576) :
    Calls Try.prog 12 #[.slice aa za.length pa, .slice ab zb.length pb, .slice am zm.length pm] w (TruePost w) :=
  ModnInverse_v (NumAt.of sa ua (by omega)) (NumAt.of sb ub (by omega)) (NumAt.of sm um (by omega)) (Lim.of_list ua (by omega)) (Lim.of_list ub (by omega)) (Lim.of_list um (by omega))
end Go.Proofs.Ytadldaidbcdaeaa
