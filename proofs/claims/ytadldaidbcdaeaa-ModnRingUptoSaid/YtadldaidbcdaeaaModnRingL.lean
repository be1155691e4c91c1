/- signetlaw7.ModnRing, its walk. (Printed by gen_modnlaws.py.) -/
import Derived.Test.YtadldaidbcdaeaaLawSevenB
set_option linter.unusedVariables false
set_option linter.unusedSimpArgs false
namespace Go.Sg
theorem ring_add (a b c m : Nat) : ((a + b) % m + c) % m = (a + (b + c) % m) % m := by
  rw [Nat.mod_add_mod, Nat.add_mod_mod, Nat.add_assoc]
theorem ring_mul (a b c m : Nat) : a * b % m * c % m = a * (b * c % m) % m := by
  rw [Nat.mod_mul_mod, Nat.mul_mod_mod, Nat.mul_assoc]
theorem ring_dist (a b c m : Nat) : (a * b % m + a * c % m) % m = a * ((b + c) % m) % m := by
  rw [Nat.mod_add_mod, Nat.add_mod_mod, Nat.mul_mod_mod, Nat.mul_add]
theorem ring_sub {a b m : Nat} (h : 0 < m) : subM ((a + b) % m % m) (b % m) m = a % m := by
  have hb := Nat.mod_lt b h
  have ha := Nat.mod_lt ((a + b) % m) h
  have h1 : Cg m (subM ((a + b) % m % m) (b % m) m) (((a + b) % m % m : Nat) - ((b % m : Nat) : Int)) := subM_cg hb
  have h2 : Cg m ((((a + b) % m % m : Nat) : Int) - ((b % m : Nat) : Int)) (((a + b : Nat) : Int) - (b : Int)) := ((Cg.mod m _).trans (Cg.mod m _)).sub (Cg.mod m b)
  have h3 := h1.trans h2
  have e : ((a + b : Nat) : Int) - (b : Int) = (a : Int) := by omega
  rw [e] at h3
  have := h3.eq
  rwa [Nat.mod_eq_of_lt (subM_lt ha hb)] at this
theorem ring_more {a b d m : Nat} (h : d = a % m) : (d + m) * b % m = a * b % m := by
  rw [h, Nat.add_mul, Nat.add_mul_mod_self_left, Nat.mod_mul_mod]
end Go.Sg
namespace Go.Proofs.Ytadldaidbcdaeaa
open Go.RowKit Go.Sg


set_option maxHeartbeats 16000000 in
set_option maxRecDepth 100000 in
theorem ModnRing_no {va vb vc vm : Value} {a b c m : Nat} {w : World} (na : NumAt w va a) (nb : NumAt w vb b) (nc : NumAt w vc c) (nm : NumAt w vm m) (la : Lim 1048576 a) (lb : Lim 1048576 b) (lc : Lim 1048576 c) (lm : Lim 1048576 m) {code : Int} (ec : wrongN [a, b, m] = code) (no : code ≠ 0) :
    Calls Try.prog 15 #[va, vb, vc, vm] w (TruePost w) := by
  have g2 : (code != 0) = true := by simpa using no
  have EC := Lib.hid ec
  clear ec no
  go_enter Try.func15, Try.ntmps15
  have hB := Below.refl w.heap.size w
  go_wp2_with fail
  refine (awake_v _).mono ?_; rintro e w1 ⟨rfl, hb⟩
  replace na := na.below hb
  replace nb := nb.below hb
  replace nc := nc.below hb
  replace nm := nm.below hb
  replace hB := hB.trans (hb.mono hB.size)
  clear hb
  go_wp2_with fail
  refine (refuses_v na nb nm).mono ?_; rintro e w' ⟨rfl, rfl⟩
  rw [EC.out]
  go_wp2_with fail
  go_ret
  exact ⟨rfl, hB⟩

set_option maxHeartbeats 16000000 in
set_option maxRecDepth 100000 in
theorem ModnRing_c {va vb vc vm : Value} {a b c m : Nat} {w : World} (na : NumAt w va a) (nb : NumAt w vb b) (nc : NumAt w vc c) (nm : NumAt w vm m) (la : Lim 1048576 a) (lb : Lim 1048576 b) (lc : Lim 1048576 c) (lm : Lim 1048576 m) (ok : Ok3 a b m) (hc : bigB c = true) :
    Calls Try.prog 15 #[va, vb, vc, vm] w (TruePost w) := by
  obtain ⟨q, hq⟩ : ∃ q, q = nl c := ⟨_, rfl⟩
  have hq2 : 128 < q := by rw [hq]; have := nl_big c; rw [hc] at this; exact of_decide_eq_true this
  have hd : decide ((128 : Int) < (q : Int)) = true := decide_eq_true (by omega)
  have HQ := Lib.hid hq
  have OK := Lib.hid ok
  clear ok hc hq hq2
  go_enter Try.func15, Try.ntmps15
  have hB := Below.refl w.heap.size w
  go_wp2_with fail
  refine (awake_v _).mono ?_; rintro e w1 ⟨rfl, hb⟩
  replace na := na.below hb
  replace nb := nb.below hb
  replace nc := nc.below hb
  replace nm := nm.below hb
  replace hB := hB.trans (hb.mono hB.size)
  clear hb
  go_wp2_with fail
  refine (refuses_v na nb nm).mono ?_; rintro e w' ⟨rfl, rfl⟩
  rw [OK.out.code]
  go_wp2_with fail
  refine (limbs_v nc).mono ?_; rintro e w' ⟨rfl, rfl⟩
  rw [← HQ.out]
  go_wp2_with fail
  go_ret
  exact ⟨rfl, hB⟩

set_option maxHeartbeats 16000000 in
set_option maxRecDepth 100000 in
theorem ModnRing_f {va vb vc vm : Value} {a b c m : Nat} {w : World} (na : NumAt w va a) (nb : NumAt w vb b) (nc : NumAt w vc c) (nm : NumAt w vm m) (la : Lim 1048576 a) (lb : Lim 1048576 b) (lc : Lim 1048576 c) (lm : Lim 1048576 m) (ok : Ok3 a b m) (hc : bigB c = false) (hdm : bigB (a % m + m) = true) :
    Calls Try.prog 15 #[va, vb, vc, vm] w (TruePost w) := by
  obtain ⟨q, hq⟩ : ∃ q, q = nl c := ⟨_, rfl⟩
  have hq2 : ¬ 128 < q := by rw [hq]; have := nl_big c; rw [hc] at this; exact of_decide_eq_false this
  have hd : decide ((128 : Int) < (q : Int)) = false := decide_eq_false (by omega)
  have HQ := Lib.hid hq
  have OK := Lib.hid ok
  have HC := Lib.hid hc
  have HDM := Lib.hid hdm
  have m0 : Hid (0 < m) := Lib.hid (by have := ok.two; omega)
  have lm := ok.lim
  clear ok hc hq hq2 hdm
  have okn : ∀ x y, bigB x = false → bigB y = false → Ok3 x y m := fun x y hx hy => ⟨hx, hy, OK.out.pm, OK.out.two⟩
  have OKN := Lib.hid okn
  clear okn
  go_enter Try.func15, Try.ntmps15
  have hB := Below.refl w.heap.size w
  go_wp2_with fail
  refine (awake_v _).mono ?_; rintro e w1 ⟨rfl, hb⟩
  replace na := na.below hb
  replace nb := nb.below hb
  replace nc := nc.below hb
  replace nm := nm.below hb
  replace hB := hB.trans (hb.mono hB.size)
  clear hb
  go_wp2_with fail
  refine (refuses_v na nb nm).mono ?_; rintro e w' ⟨rfl, rfl⟩
  rw [OK.out.code]
  go_wp2_with fail
  refine (limbs_v nc).mono ?_; rintro e w' ⟨rfl, rfl⟩
  rw [← HQ.out]
  go_wp2_with fail
  refine (mAdd_ok na nb nm (OKN.out _ _ OK.out.pa OK.out.pb)).mono ?_; rintro e w2 ⟨vab, rfl, cab, hb⟩
  replace na := na.below hb
  replace nb := nb.below hb
  replace nc := nc.below hb
  replace nm := nm.below hb
  replace hB := hB.trans (hb.mono hB.size)
  clear hb
  go_wp2_with fail
  refine (mAdd_ok nb na nm (OKN.out _ _ OK.out.pb OK.out.pa)).mono ?_; rintro e w3 ⟨vba, rfl, cba, hb⟩
  replace na := na.below hb
  replace nb := nb.below hb
  replace nc := nc.below hb
  replace nm := nm.below hb
  replace cab := cab.below hb
  replace hB := hB.trans (hb.mono hB.size)
  clear hb
  go_wp2_with fail
  refine (mAdd_ok nb nc nm (OKN.out _ _ OK.out.pb HC.out)).mono ?_; rintro e w4 ⟨vbc, rfl, cbc, hb⟩
  replace na := na.below hb
  replace nb := nb.below hb
  replace nc := nc.below hb
  replace nm := nm.below hb
  replace cab := cab.below hb
  replace cba := cba.below hb
  replace hB := hB.trans (hb.mono hB.size)
  clear hb
  go_wp2_with fail
  refine (mAdd_ok cab.num nc nm (OKN.out _ _ (OK.out.rest _) HC.out)).mono ?_; rintro e w5 ⟨vl, rfl, cl, hb⟩
  replace na := na.below hb
  replace nb := nb.below hb
  replace nc := nc.below hb
  replace nm := nm.below hb
  replace cab := cab.below hb
  replace cba := cba.below hb
  replace cbc := cbc.below hb
  replace hB := hB.trans (hb.mono hB.size)
  clear hb
  go_wp2_with fail
  refine (mAdd_ok na cbc.num nm (OKN.out _ _ OK.out.pa (OK.out.rest _))).mono ?_; rintro e w6 ⟨vr, rfl, cr, hb⟩
  replace na := na.below hb
  replace nb := nb.below hb
  replace nc := nc.below hb
  replace nm := nm.below hb
  replace cab := cab.below hb
  replace cba := cba.below hb
  replace cbc := cbc.below hb
  replace cl := cl.below hb
  replace hB := hB.trans (hb.mono hB.size)
  clear hb
  go_wp2_with fail
  refine (same_yes cab cba (by rw [Nat.add_comm])).mono ?_; rintro e w7 ⟨rfl, hb⟩
  replace na := na.below hb.b
  replace nb := nb.below hb.b
  replace nc := nc.below hb.b
  replace nm := nm.below hb.b
  replace cab := cab.below hb.b
  replace cba := cba.below hb.b
  replace cbc := cbc.below hb.b
  replace cl := cl.below hb.b
  replace cr := cr.below hb.b
  replace hB := hB.trans (hb.b.mono hB.size)
  clear hb
  clear cba
  go_wp2_with fail
  refine (same_yes cl cr (ring_add a b c m)).mono ?_; rintro e w8 ⟨rfl, hb⟩
  replace na := na.below hb.b
  replace nb := nb.below hb.b
  replace nc := nc.below hb.b
  replace nm := nm.below hb.b
  replace cab := cab.below hb.b
  replace cbc := cbc.below hb.b
  replace cl := cl.below hb.b
  replace cr := cr.below hb.b
  replace hB := hB.trans (hb.b.mono hB.size)
  clear hb
  clear cl
  clear cr
  go_wp2_with fail
  refine (mSub_ok cab.num nb nm (OKN.out _ _ (OK.out.rest _) OK.out.pb)).mono ?_; rintro e w9 ⟨vd, rfl, cd, hb⟩
  replace na := na.below hb
  replace nb := nb.below hb
  replace nc := nc.below hb
  replace nm := nm.below hb
  replace cab := cab.below hb
  replace cbc := cbc.below hb
  replace hB := hB.trans (hb.mono hB.size)
  clear hb
  clear cab
  obtain ⟨dn, hdn⟩ : ∃ n, n = subM ((a + b) % m % m) (b % m) m := ⟨_, rfl⟩
  rw [← hdn] at cd
  have hda : Hid (dn = a % m) := Lib.hid (by rw [hdn]; exact ring_sub m0.out)
  clear hdn
  go_wp2_with fail
  refine (is_yes cd na nm m0.out hda.out).mono ?_; rintro e w10 ⟨rfl, hb⟩
  replace na := na.below hb
  replace nb := nb.below hb
  replace nc := nc.below hb
  replace nm := nm.below hb
  replace cbc := cbc.below hb
  replace cd := cd.below hb
  replace hB := hB.trans (hb.mono hB.size)
  clear hb
  go_wp2_with fail
  refine (mMul_ok na nb nm (OKN.out _ _ OK.out.pa OK.out.pb)).mono ?_; rintro e w11 ⟨vpq, rfl, cpq, hb⟩
  replace na := na.below hb
  replace nb := nb.below hb
  replace nc := nc.below hb
  replace nm := nm.below hb
  replace cbc := cbc.below hb
  replace cd := cd.below hb
  replace hB := hB.trans (hb.mono hB.size)
  clear hb
  go_wp2_with fail
  refine (mMul_ok nb na nm (OKN.out _ _ OK.out.pb OK.out.pa)).mono ?_; rintro e w12 ⟨vqp, rfl, cqp, hb⟩
  replace na := na.below hb
  replace nb := nb.below hb
  replace nc := nc.below hb
  replace nm := nm.below hb
  replace cbc := cbc.below hb
  replace cd := cd.below hb
  replace cpq := cpq.below hb
  replace hB := hB.trans (hb.mono hB.size)
  clear hb
  go_wp2_with fail
  refine (mMul_ok nb nc nm (OKN.out _ _ OK.out.pb HC.out)).mono ?_; rintro e w13 ⟨vqc, rfl, cqc, hb⟩
  replace na := na.below hb
  replace nb := nb.below hb
  replace nc := nc.below hb
  replace nm := nm.below hb
  replace cbc := cbc.below hb
  replace cd := cd.below hb
  replace cpq := cpq.below hb
  replace cqp := cqp.below hb
  replace hB := hB.trans (hb.mono hB.size)
  clear hb
  go_wp2_with fail
  refine (mMul_ok cpq.num nc nm (OKN.out _ _ (OK.out.rest _) HC.out)).mono ?_; rintro e w14 ⟨vl, rfl, cl, hb⟩
  replace na := na.below hb
  replace nb := nb.below hb
  replace nc := nc.below hb
  replace nm := nm.below hb
  replace cbc := cbc.below hb
  replace cd := cd.below hb
  replace cpq := cpq.below hb
  replace cqp := cqp.below hb
  replace cqc := cqc.below hb
  replace hB := hB.trans (hb.mono hB.size)
  clear hb
  go_wp2_with fail
  refine (mMul_ok na cqc.num nm (OKN.out _ _ OK.out.pa (OK.out.rest _))).mono ?_; rintro e w15 ⟨vr, rfl, cr, hb⟩
  replace na := na.below hb
  replace nb := nb.below hb
  replace nc := nc.below hb
  replace nm := nm.below hb
  replace cbc := cbc.below hb
  replace cd := cd.below hb
  replace cpq := cpq.below hb
  replace cqp := cqp.below hb
  replace cqc := cqc.below hb
  replace cl := cl.below hb
  replace hB := hB.trans (hb.mono hB.size)
  clear hb
  go_wp2_with fail
  refine (same_yes cpq cqp (by rw [Nat.mul_comm])).mono ?_; rintro e w16 ⟨rfl, hb⟩
  replace na := na.below hb.b
  replace nb := nb.below hb.b
  replace nc := nc.below hb.b
  replace nm := nm.below hb.b
  replace cbc := cbc.below hb.b
  replace cd := cd.below hb.b
  replace cpq := cpq.below hb.b
  replace cqp := cqp.below hb.b
  replace cqc := cqc.below hb.b
  replace cl := cl.below hb.b
  replace cr := cr.below hb.b
  replace hB := hB.trans (hb.b.mono hB.size)
  clear hb
  clear cqp
  go_wp2_with fail
  refine (same_yes cl cr (ring_mul a b c m)).mono ?_; rintro e w17 ⟨rfl, hb⟩
  replace na := na.below hb.b
  replace nb := nb.below hb.b
  replace nc := nc.below hb.b
  replace nm := nm.below hb.b
  replace cbc := cbc.below hb.b
  replace cd := cd.below hb.b
  replace cpq := cpq.below hb.b
  replace cqc := cqc.below hb.b
  replace cl := cl.below hb.b
  replace cr := cr.below hb.b
  replace hB := hB.trans (hb.b.mono hB.size)
  clear hb
  clear cl
  clear cr
  clear cqc
  go_wp2_with fail
  refine (mMul_ok na nc nm (OKN.out _ _ OK.out.pa HC.out)).mono ?_; rintro e w18 ⟨vpc, rfl, cpc, hb⟩
  replace na := na.below hb
  replace nb := nb.below hb
  replace nc := nc.below hb
  replace nm := nm.below hb
  replace cbc := cbc.below hb
  replace cd := cd.below hb
  replace cpq := cpq.below hb
  replace hB := hB.trans (hb.mono hB.size)
  clear hb
  go_wp2_with fail
  refine (mAdd_ok cpq.num cpc.num nm (OKN.out _ _ (OK.out.rest _) (OK.out.rest _))).mono ?_; rintro e w19 ⟨vsum, rfl, csum, hb⟩
  replace na := na.below hb
  replace nb := nb.below hb
  replace nc := nc.below hb
  replace nm := nm.below hb
  replace cbc := cbc.below hb
  replace cd := cd.below hb
  replace cpq := cpq.below hb
  replace cpc := cpc.below hb
  replace hB := hB.trans (hb.mono hB.size)
  clear hb
  go_wp2_with fail
  refine (mMul_ok na cbc.num nm (OKN.out _ _ OK.out.pa (OK.out.rest _))).mono ?_; rintro e w20 ⟨vall, rfl, call, hb⟩
  replace na := na.below hb
  replace nb := nb.below hb
  replace nc := nc.below hb
  replace nm := nm.below hb
  replace cbc := cbc.below hb
  replace cd := cd.below hb
  replace cpq := cpq.below hb
  replace cpc := cpc.below hb
  replace csum := csum.below hb
  replace hB := hB.trans (hb.mono hB.size)
  clear hb
  go_wp2_with fail
  refine (same_yes csum call (ring_dist a b c m)).mono ?_; rintro e w21 ⟨rfl, hb⟩
  replace na := na.below hb.b
  replace nb := nb.below hb.b
  replace nc := nc.below hb.b
  replace nm := nm.below hb.b
  replace cbc := cbc.below hb.b
  replace cd := cd.below hb.b
  replace cpq := cpq.below hb.b
  replace cpc := cpc.below hb.b
  replace csum := csum.below hb.b
  replace call := call.below hb.b
  replace hB := hB.trans (hb.b.mono hB.size)
  clear hb
  clear csum
  clear call
  clear cpc
  clear cbc
  have ldn : Lim 128 dn := by rw [hda.out]; exact lm.of_lt (Nat.mod_lt _ m0.out)
  go_wp2_with fail
  refine (add_can cd.num nm ldn lm (by omega)).mono ?_; rintro e w22 ⟨vdm, rfl, cdm, hb⟩
  replace na := na.below hb
  replace nb := nb.below hb
  replace nc := nc.below hb
  replace nm := nm.below hb
  replace cd := cd.below hb
  replace cpq := cpq.below hb
  replace hB := hB.trans (hb.mono hB.size)
  clear hb
  have EC : Hid (wrongN [dn + m, b, m] = 10) := Lib.hid (by rw [wrongN3, if_pos (.inl (by rw [hda.out]; exact HDM.out))])
  go_wp2_with fail
  refine (mMul_no cdm.num nb nm EC.out (by omega)).mono ?_; rintro e w23 ⟨rfl, hb⟩
  replace na := na.below hb
  replace nb := nb.below hb
  replace nc := nc.below hb
  replace nm := nm.below hb
  replace cd := cd.below hb
  replace cpq := cpq.below hb
  replace cdm := cdm.below hb
  replace hB := hB.trans (hb.mono hB.size)
  clear hb
  clear cdm
  go_wp2_with fail
  refine (add_can cd.num nm ldn lm (by omega)).mono ?_; rintro e w24 ⟨vdm, rfl, cdm, hb⟩
  replace na := na.below hb
  replace nb := nb.below hb
  replace nc := nc.below hb
  replace nm := nm.below hb
  replace cd := cd.below hb
  replace cpq := cpq.below hb
  replace hB := hB.trans (hb.mono hB.size)
  clear hb
  obtain ⟨q2, hq2⟩ : ∃ q, q = nl (dn + m) := ⟨_, rfl⟩
  have hd2 : decide ((128 : Int) < (q2 : Int)) = true := by rw [hq2]; have := nl_big (dn + m); rw [hda.out, HDM.out] at this; rw [hda.out]; have := of_decide_eq_true this; exact decide_eq_true (by omega)
  have HQ2 := Lib.hid hq2
  clear hq2
  go_wp2_with fail
  refine (limbs_v cdm.num).mono ?_; rintro e w' ⟨rfl, rfl⟩
  rw [← HQ2.out]
  go_wp2_with fail
  go_ret
  exact ⟨rfl, hB⟩

set_option maxHeartbeats 16000000 in
set_option maxRecDepth 100000 in
theorem ModnRing_e {va vb vc vm : Value} {a b c m : Nat} {w : World} (na : NumAt w va a) (nb : NumAt w vb b) (nc : NumAt w vc c) (nm : NumAt w vm m) (la : Lim 1048576 a) (lb : Lim 1048576 b) (lc : Lim 1048576 c) (lm : Lim 1048576 m) (ok : Ok3 a b m) (hc : bigB c = false) (hdm : bigB (a % m + m) = false) :
    Calls Try.prog 15 #[va, vb, vc, vm] w (TruePost w) := by
  obtain ⟨q, hq⟩ : ∃ q, q = nl c := ⟨_, rfl⟩
  have hq2 : ¬ 128 < q := by rw [hq]; have := nl_big c; rw [hc] at this; exact of_decide_eq_false this
  have hd : decide ((128 : Int) < (q : Int)) = false := decide_eq_false (by omega)
  have HQ := Lib.hid hq
  have OK := Lib.hid ok
  have HC := Lib.hid hc
  have HDM := Lib.hid hdm
  have m0 : Hid (0 < m) := Lib.hid (by have := ok.two; omega)
  have lm := ok.lim
  clear ok hc hq hq2 hdm
  have okn : ∀ x y, bigB x = false → bigB y = false → Ok3 x y m := fun x y hx hy => ⟨hx, hy, OK.out.pm, OK.out.two⟩
  have OKN := Lib.hid okn
  clear okn
  go_enter Try.func15, Try.ntmps15
  have hB := Below.refl w.heap.size w
  go_wp2_with fail
  refine (awake_v _).mono ?_; rintro e w1 ⟨rfl, hb⟩
  replace na := na.below hb
  replace nb := nb.below hb
  replace nc := nc.below hb
  replace nm := nm.below hb
  replace hB := hB.trans (hb.mono hB.size)
  clear hb
  go_wp2_with fail
  refine (refuses_v na nb nm).mono ?_; rintro e w' ⟨rfl, rfl⟩
  rw [OK.out.code]
  go_wp2_with fail
  refine (limbs_v nc).mono ?_; rintro e w' ⟨rfl, rfl⟩
  rw [← HQ.out]
  go_wp2_with fail
  refine (mAdd_ok na nb nm (OKN.out _ _ OK.out.pa OK.out.pb)).mono ?_; rintro e w2 ⟨vab, rfl, cab, hb⟩
  replace na := na.below hb
  replace nb := nb.below hb
  replace nc := nc.below hb
  replace nm := nm.below hb
  replace hB := hB.trans (hb.mono hB.size)
  clear hb
  go_wp2_with fail
  refine (mAdd_ok nb na nm (OKN.out _ _ OK.out.pb OK.out.pa)).mono ?_; rintro e w3 ⟨vba, rfl, cba, hb⟩
  replace na := na.below hb
  replace nb := nb.below hb
  replace nc := nc.below hb
  replace nm := nm.below hb
  replace cab := cab.below hb
  replace hB := hB.trans (hb.mono hB.size)
  clear hb
  go_wp2_with fail
  refine (mAdd_ok nb nc nm (OKN.out _ _ OK.out.pb HC.out)).mono ?_; rintro e w4 ⟨vbc, rfl, cbc, hb⟩
  replace na := na.below hb
  replace nb := nb.below hb
  replace nc := nc.below hb
  replace nm := nm.below hb
  replace cab := cab.below hb
  replace cba := cba.below hb
  replace hB := hB.trans (hb.mono hB.size)
  clear hb
  go_wp2_with fail
  refine (mAdd_ok cab.num nc nm (OKN.out _ _ (OK.out.rest _) HC.out)).mono ?_; rintro e w5 ⟨vl, rfl, cl, hb⟩
  replace na := na.below hb
  replace nb := nb.below hb
  replace nc := nc.below hb
  replace nm := nm.below hb
  replace cab := cab.below hb
  replace cba := cba.below hb
  replace cbc := cbc.below hb
  replace hB := hB.trans (hb.mono hB.size)
  clear hb
  go_wp2_with fail
  refine (mAdd_ok na cbc.num nm (OKN.out _ _ OK.out.pa (OK.out.rest _))).mono ?_; rintro e w6 ⟨vr, rfl, cr, hb⟩
  replace na := na.below hb
  replace nb := nb.below hb
  replace nc := nc.below hb
  replace nm := nm.below hb
  replace cab := cab.below hb
  replace cba := cba.below hb
  replace cbc := cbc.below hb
  replace cl := cl.below hb
  replace hB := hB.trans (hb.mono hB.size)
  clear hb
  go_wp2_with fail
  refine (same_yes cab cba (by rw [Nat.add_comm])).mono ?_; rintro e w7 ⟨rfl, hb⟩
  replace na := na.below hb.b
  replace nb := nb.below hb.b
  replace nc := nc.below hb.b
  replace nm := nm.below hb.b
  replace cab := cab.below hb.b
  replace cba := cba.below hb.b
  replace cbc := cbc.below hb.b
  replace cl := cl.below hb.b
  replace cr := cr.below hb.b
  replace hB := hB.trans (hb.b.mono hB.size)
  clear hb
  clear cba
  go_wp2_with fail
  refine (same_yes cl cr (ring_add a b c m)).mono ?_; rintro e w8 ⟨rfl, hb⟩
  replace na := na.below hb.b
  replace nb := nb.below hb.b
  replace nc := nc.below hb.b
  replace nm := nm.below hb.b
  replace cab := cab.below hb.b
  replace cbc := cbc.below hb.b
  replace cl := cl.below hb.b
  replace cr := cr.below hb.b
  replace hB := hB.trans (hb.b.mono hB.size)
  clear hb
  clear cl
  clear cr
  go_wp2_with fail
  refine (mSub_ok cab.num nb nm (OKN.out _ _ (OK.out.rest _) OK.out.pb)).mono ?_; rintro e w9 ⟨vd, rfl, cd, hb⟩
  replace na := na.below hb
  replace nb := nb.below hb
  replace nc := nc.below hb
  replace nm := nm.below hb
  replace cab := cab.below hb
  replace cbc := cbc.below hb
  replace hB := hB.trans (hb.mono hB.size)
  clear hb
  clear cab
  obtain ⟨dn, hdn⟩ : ∃ n, n = subM ((a + b) % m % m) (b % m) m := ⟨_, rfl⟩
  rw [← hdn] at cd
  have hda : Hid (dn = a % m) := Lib.hid (by rw [hdn]; exact ring_sub m0.out)
  clear hdn
  go_wp2_with fail
  refine (is_yes cd na nm m0.out hda.out).mono ?_; rintro e w10 ⟨rfl, hb⟩
  replace na := na.below hb
  replace nb := nb.below hb
  replace nc := nc.below hb
  replace nm := nm.below hb
  replace cbc := cbc.below hb
  replace cd := cd.below hb
  replace hB := hB.trans (hb.mono hB.size)
  clear hb
  go_wp2_with fail
  refine (mMul_ok na nb nm (OKN.out _ _ OK.out.pa OK.out.pb)).mono ?_; rintro e w11 ⟨vpq, rfl, cpq, hb⟩
  replace na := na.below hb
  replace nb := nb.below hb
  replace nc := nc.below hb
  replace nm := nm.below hb
  replace cbc := cbc.below hb
  replace cd := cd.below hb
  replace hB := hB.trans (hb.mono hB.size)
  clear hb
  go_wp2_with fail
  refine (mMul_ok nb na nm (OKN.out _ _ OK.out.pb OK.out.pa)).mono ?_; rintro e w12 ⟨vqp, rfl, cqp, hb⟩
  replace na := na.below hb
  replace nb := nb.below hb
  replace nc := nc.below hb
  replace nm := nm.below hb
  replace cbc := cbc.below hb
  replace cd := cd.below hb
  replace cpq := cpq.below hb
  replace hB := hB.trans (hb.mono hB.size)
  clear hb
  go_wp2_with fail
  refine (mMul_ok nb nc nm (OKN.out _ _ OK.out.pb HC.out)).mono ?_; rintro e w13 ⟨vqc, rfl, cqc, hb⟩
  replace na := na.below hb
  replace nb := nb.below hb
  replace nc := nc.below hb
  replace nm := nm.below hb
  replace cbc := cbc.below hb
  replace cd := cd.below hb
  replace cpq := cpq.below hb
  replace cqp := cqp.below hb
  replace hB := hB.trans (hb.mono hB.size)
  clear hb
  go_wp2_with fail
  refine (mMul_ok cpq.num nc nm (OKN.out _ _ (OK.out.rest _) HC.out)).mono ?_; rintro e w14 ⟨vl, rfl, cl, hb⟩
  replace na := na.below hb
  replace nb := nb.below hb
  replace nc := nc.below hb
  replace nm := nm.below hb
  replace cbc := cbc.below hb
  replace cd := cd.below hb
  replace cpq := cpq.below hb
  replace cqp := cqp.below hb
  replace cqc := cqc.below hb
  replace hB := hB.trans (hb.mono hB.size)
  clear hb
  go_wp2_with fail
  refine (mMul_ok na cqc.num nm (OKN.out _ _ OK.out.pa (OK.out.rest _))).mono ?_; rintro e w15 ⟨vr, rfl, cr, hb⟩
  replace na := na.below hb
  replace nb := nb.below hb
  replace nc := nc.below hb
  replace nm := nm.below hb
  replace cbc := cbc.below hb
  replace cd := cd.below hb
  replace cpq := cpq.below hb
  replace cqp := cqp.below hb
  replace cqc := cqc.below hb
  replace cl := cl.below hb
  replace hB := hB.trans (hb.mono hB.size)
  clear hb
  go_wp2_with fail
  refine (same_yes cpq cqp (by rw [Nat.mul_comm])).mono ?_; rintro e w16 ⟨rfl, hb⟩
  replace na := na.below hb.b
  replace nb := nb.below hb.b
  replace nc := nc.below hb.b
  replace nm := nm.below hb.b
  replace cbc := cbc.below hb.b
  replace cd := cd.below hb.b
  replace cpq := cpq.below hb.b
  replace cqp := cqp.below hb.b
  replace cqc := cqc.below hb.b
  replace cl := cl.below hb.b
  replace cr := cr.below hb.b
  replace hB := hB.trans (hb.b.mono hB.size)
  clear hb
  clear cqp
  go_wp2_with fail
  refine (same_yes cl cr (ring_mul a b c m)).mono ?_; rintro e w17 ⟨rfl, hb⟩
  replace na := na.below hb.b
  replace nb := nb.below hb.b
  replace nc := nc.below hb.b
  replace nm := nm.below hb.b
  replace cbc := cbc.below hb.b
  replace cd := cd.below hb.b
  replace cpq := cpq.below hb.b
  replace cqc := cqc.below hb.b
  replace cl := cl.below hb.b
  replace cr := cr.below hb.b
  replace hB := hB.trans (hb.b.mono hB.size)
  clear hb
  clear cl
  clear cr
  clear cqc
  go_wp2_with fail
  refine (mMul_ok na nc nm (OKN.out _ _ OK.out.pa HC.out)).mono ?_; rintro e w18 ⟨vpc, rfl, cpc, hb⟩
  replace na := na.below hb
  replace nb := nb.below hb
  replace nc := nc.below hb
  replace nm := nm.below hb
  replace cbc := cbc.below hb
  replace cd := cd.below hb
  replace cpq := cpq.below hb
  replace hB := hB.trans (hb.mono hB.size)
  clear hb
  go_wp2_with fail
  refine (mAdd_ok cpq.num cpc.num nm (OKN.out _ _ (OK.out.rest _) (OK.out.rest _))).mono ?_; rintro e w19 ⟨vsum, rfl, csum, hb⟩
  replace na := na.below hb
  replace nb := nb.below hb
  replace nc := nc.below hb
  replace nm := nm.below hb
  replace cbc := cbc.below hb
  replace cd := cd.below hb
  replace cpq := cpq.below hb
  replace cpc := cpc.below hb
  replace hB := hB.trans (hb.mono hB.size)
  clear hb
  go_wp2_with fail
  refine (mMul_ok na cbc.num nm (OKN.out _ _ OK.out.pa (OK.out.rest _))).mono ?_; rintro e w20 ⟨vall, rfl, call, hb⟩
  replace na := na.below hb
  replace nb := nb.below hb
  replace nc := nc.below hb
  replace nm := nm.below hb
  replace cbc := cbc.below hb
  replace cd := cd.below hb
  replace cpq := cpq.below hb
  replace cpc := cpc.below hb
  replace csum := csum.below hb
  replace hB := hB.trans (hb.mono hB.size)
  clear hb
  go_wp2_with fail
  refine (same_yes csum call (ring_dist a b c m)).mono ?_; rintro e w21 ⟨rfl, hb⟩
  replace na := na.below hb.b
  replace nb := nb.below hb.b
  replace nc := nc.below hb.b
  replace nm := nm.below hb.b
  replace cbc := cbc.below hb.b
  replace cd := cd.below hb.b
  replace cpq := cpq.below hb.b
  replace cpc := cpc.below hb.b
  replace csum := csum.below hb.b
  replace call := call.below hb.b
  replace hB := hB.trans (hb.b.mono hB.size)
  clear hb
  clear csum
  clear call
  clear cpc
  clear cbc
  have ldn : Lim 128 dn := by rw [hda.out]; exact lm.of_lt (Nat.mod_lt _ m0.out)
  go_wp2_with fail
  refine (add_can cd.num nm ldn lm (by omega)).mono ?_; rintro e w22 ⟨vdm, rfl, cdm, hb⟩
  replace na := na.below hb
  replace nb := nb.below hb
  replace nc := nc.below hb
  replace nm := nm.below hb
  replace cd := cd.below hb
  replace cpq := cpq.below hb
  replace hB := hB.trans (hb.mono hB.size)
  clear hb
  go_wp2_with fail
  refine (mMul_ok cdm.num nb nm (OKN.out _ _ (by rw [hda.out]; exact HDM.out) OK.out.pb)).mono ?_; rintro e w23 ⟨vmore, rfl, cmore, hb⟩
  replace na := na.below hb
  replace nb := nb.below hb
  replace nc := nc.below hb
  replace nm := nm.below hb
  replace cd := cd.below hb
  replace cpq := cpq.below hb
  replace cdm := cdm.below hb
  replace hB := hB.trans (hb.mono hB.size)
  clear hb
  go_wp2_with fail
  refine (same_yes cmore cpq (ring_more hda.out)).mono ?_; rintro e w24 ⟨rfl, hb⟩
  replace na := na.below hb.b
  replace nb := nb.below hb.b
  replace nc := nc.below hb.b
  replace nm := nm.below hb.b
  replace cd := cd.below hb.b
  replace cpq := cpq.below hb.b
  replace cdm := cdm.below hb.b
  replace cmore := cmore.below hb.b
  replace hB := hB.trans (hb.b.mono hB.size)
  clear hb
  go_wp2_with fail
  go_ret
  exact ⟨rfl, hB⟩

set_option maxHeartbeats 16000000 in
set_option maxRecDepth 100000 in
theorem ModnRing_v {va vb vc vm : Value} {a b c m : Nat} {w : World} (na : NumAt w va a) (nb : NumAt w vb b) (nc : NumAt w vc c) (nm : NumAt w vm m) (la : Lim 1048576 a) (lb : Lim 1048576 b) (lc : Lim 1048576 c) (lm : Lim 1048576 m) :
    Calls Try.prog 15 #[va, vb, vc, vm] w (TruePost w) := by
  by_cases h : wrongN [a, b, m] = 0
  · cases hc : bigB c
    · cases hd : bigB (a % m + m)
      · exact ModnRing_e na nb nc nm la lb lc lm (.of h) hc hd
      · exact ModnRing_f na nb nc nm la lb lc lm (.of h) hc hd
    · exact ModnRing_c na nb nc nm la lb lc lm (.of h) hc
  · exact ModnRing_no na nb nc nm la lb lc lm rfl h

theorem ModnRing_cc (aa : Option Addr) (pa : Nat) (za : List Int) (ab : Option Addr) (pb : Nat) (zb : List Int) (ac : Option Addr) (pc : Nat) (zc : List Int) (am : Option Addr) (pm : Nat) (zm : List Int) (w : World) (sa : Sl .u32 w aa pa za) (ua : U32 za) (sb : Sl .u32 w ab pb zb) (ub : U32 zb) (sc : Sl .u32 w ac pc zc) (uc : U32 zc) (sm : Sl .u32 w am pm zm) (um : U32 zm) (hz : za.length + zb.length + zc.length + zm.length ≤ 1048576) :
    Calls Try.prog 15 #[.slice aa za.length pa, .slice ab zb.length pb, .slice ac zc.length pc, .slice am zm.length pm] w (TruePost w) :=
  ModnRing_v (NumAt.of sa ua (by omega)) (NumAt.of sb ub (by omega)) (NumAt.of sc uc (by omega)) (NumAt.of sm um (by omega)) (Lim.of_list ua (by omega)) (Lim.of_list ub (by omega)) (Lim.of_list uc (by omega)) (Lim.of_list um (by omega))
end Go.Proofs.Ytadldaidbcdaeaa
