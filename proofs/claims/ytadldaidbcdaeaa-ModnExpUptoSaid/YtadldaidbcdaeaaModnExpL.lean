/- signetlaw7.ModnExp, its walk. (Printed by gen_modnlaws.py.) -/
import Derived.Test.YtadldaidbcdaeaaLawSevenB
import Derived.Deep.DeepCutAuto
set_option linter.unusedVariables false
set_option linter.unusedSimpArgs false
namespace Go.Sg
theorem nl_lim {k n : Nat} (h : Lim k n) : nl n ≤ k := by
  have h1 := h.lt
  rw [Rpow_two] at h1
  have := (bl_le_iff n (32 * k)).2 h1
  unfold nl
  omega
def hugeB (m e f : Nat) : Bool := decide (nl m ≤ 128 ∧ nl e + nl f ≤ 256 ∧ 1000000 < nl m * nl m * (nl e + nl f))
theorem exp_sum (a e f m : Nat) : a ^ (e + f) % m = a ^ e % m * (a ^ f % m) % m := by rw [← Nat.mul_mod, Nat.pow_add]
theorem exp_prod (a b e m : Nat) : (a * b % m) ^ e % m = a ^ e % m * (b ^ e % m) % m := by rw [← Nat.pow_mod, Nat.mul_pow, ← Nat.mul_mod]
end Go.Sg
namespace Go.Proofs.Ytadldaidbcdaeaa
open Go.RowKit Go.Sg
def IsB (b : Bool) (v : Value) : Prop := v = .bool b


set_option maxHeartbeats 16000000 in
set_option maxRecDepth 100000 in
theorem ModnExp_t {va vb ve vf vm : Value} {a b e f m : Nat} {w : World} (na : NumAt w va a) (nb : NumAt w vb b) (ne : NumAt w ve e) (nf : NumAt w vf f) (nm : NumAt w vm m) (la : Lim 1048576 a) (lb : Lim 1048576 b) (le : Lim 1048576 e) (lf : Lim 1048576 f) (lm : Lim 1048576 m) (hh : hugeB m e f = true) :
    Calls Try.prog 13 #[va, vb, ve, vf, vm] w (TruePost w) := by
  have HH := Lib.hid hh
  clear hh
  go_enter Try.func13, Try.ntmps13
  have hB := Below.refl w.heap.size w
  go_wp2_with fail
  refine (awake_v _).mono ?_; rintro e w1 ⟨rfl, hb⟩
  replace na := na.below hb
  replace nb := nb.below hb
  replace ne := ne.below hb
  replace nf := nf.below hb
  replace nm := nm.below hb
  replace hB := hB.trans (hb.mono hB.size)
  clear hb
  obtain ⟨qm, hqm⟩ : ∃ q, q = nl m := ⟨_, rfl⟩
  obtain ⟨qe, hqe⟩ : ∃ q, q = nl e := ⟨_, rfl⟩
  obtain ⟨qf, hqf⟩ : ∃ q, q = nl f := ⟨_, rfl⟩
  have hhb : hugeB m e f = decide (qm ≤ 128 ∧ qe + qf ≤ 256 ∧ 1000000 < qm * qm * (qe + qf)) := by rw [hqm, hqe, hqf]; rfl
  rw [HH.out] at hhb
  have HHB := Lib.hid hhb
  have be : qe ≤ 1048576 := by rw [hqe]; exact nl_lim le
  have bf : qf ≤ 1048576 := by rw [hqf]; exact nl_lim lf
  have HQM := Lib.hid hqm
  have HQE := Lib.hid hqe
  have HQF := Lib.hid hqf
  clear hqm hqe hqf hhb
  go_upto_region 3 with fail
  go_cut [52] (fun c wx => IsB true c ∧ w1 = wx)
  case first =>
    have tm := limbs_v nm
    have te := limbs_v ne
    have tf := limbs_v nf
    rw [← HQM.out] at tm
    rw [← HQE.out] at te
    rw [← HQF.out] at tf
    by_cases h1 : qm ≤ 128
    · have d1 : decide ((qm : Int) ≤ 128) = true := decide_eq_true (by omega)
      by_cases h2 : qe + qf ≤ 256
      · have d2 : decide ((qe : Int) + (qf : Int) ≤ 256) = true := decide_eq_true (by omega)
        have m1 : qm * qm ≤ 16384 := Nat.mul_le_mul h1 h1
        obtain ⟨mm, hmm⟩ : ∃ mm, mm = qm * qm := ⟨_, rfl⟩
        have em : (qm : Int) * (qm : Int) = (mm : Int) := by rw [hmm, Int.natCast_mul]
        obtain ⟨ss, hss⟩ : ∃ ss, ss = qe + qf := ⟨_, rfl⟩
        have es : (qe : Int) + (qf : Int) = (ss : Int) := by omega
        rw [← hmm] at m1
        rw [← hss] at h2
        have m2 : mm * ss ≤ 4194304 := Nat.mul_le_mul m1 h2
        obtain ⟨pp, hpp⟩ : ∃ pp, pp = mm * ss := ⟨_, rfl⟩
        have ep : (mm : Int) * (ss : Int) = (pp : Int) := by rw [hpp, Int.natCast_mul]
        rw [← hpp] at m2
        have d3 : decide ((1000000 : Int) < (pp : Int)) = true := by
          have := HHB.out
          rw [← hmm, ← hss, ← hpp] at this
          rw [this, decide_eq_decide]
          omega
        have d3n : decide (1000000 < pp) = true := by
          rw [← d3, decide_eq_decide]
          omega
        have w1_ : IntKind.i64.wrap ((qm : Int) * (qm : Int)) = (mm : Int) := by rw [em, IntKind.wrap_i64]; omega
        have w3_ : IntKind.i64.wrap ((mm : Int) * (ss : Int)) = (pp : Int) := by rw [ep, IntKind.wrap_i64]; omega
        rw [es] at d2
        clear hmm hss hpp
        go_wp2_with fail
        refine tm.mono ?_; rintro e_ w' ⟨rfl, rfl⟩
        go_wp2_with fail
        refine te.mono ?_; rintro e_ w' ⟨rfl, rfl⟩
        go_wp2_with fail
        refine tf.mono ?_; rintro e_ w' ⟨rfl, rfl⟩
        go_wp2_with fail
        refine tm.mono ?_; rintro e_ w' ⟨rfl, rfl⟩
        go_wp2_with fail
        refine tm.mono ?_; rintro e_ w' ⟨rfl, rfl⟩
        go_wp2_with fail
        refine te.mono ?_; rintro e_ w' ⟨rfl, rfl⟩
        go_wp2_with fail
        refine tf.mono ?_; rintro e_ w' ⟨rfl, rfl⟩
        go_wp2_with fail
        go_meet
        exact ⟨rfl, rfl⟩
      · have hno : true = false := by rw [HHB.out]; exact decide_eq_false (by omega)
        exact absurd hno (by simp)
    · have hno : true = false := by rw [HHB.out]; exact decide_eq_false (by omega)
      exact absurd hno (by simp)
  case rest =>
    obtain ⟨rfl, rfl⟩ := hcut
    clear HHB be bf HQM HQE HQF
    go_wp2_with fail
    go_ret
    exact ⟨rfl, hB⟩

set_option maxHeartbeats 16000000 in
set_option maxRecDepth 100000 in
theorem ModnExp_no {va vb ve vf vm : Value} {a b e f m : Nat} {w : World} (na : NumAt w va a) (nb : NumAt w vb b) (ne : NumAt w ve e) (nf : NumAt w vf f) (nm : NumAt w vm m) (la : Lim 1048576 a) (lb : Lim 1048576 b) (le : Lim 1048576 e) (lf : Lim 1048576 f) (lm : Lim 1048576 m) (hh : hugeB m e f = false) {code : Int} (ec : wrongN [a, e, m] = code) (no : code ≠ 0) :
    Calls Try.prog 13 #[va, vb, ve, vf, vm] w (TruePost w) := by
  have g1 : (code != code) = false := by simp
  have g2 : (code != 0) = true := by simpa using no
  have EC := Lib.hid ec
  have NO := Lib.hid no
  clear ec no
  have HH := Lib.hid hh
  clear hh
  go_enter Try.func13, Try.ntmps13
  have hB := Below.refl w.heap.size w
  go_wp2_with fail
  refine (awake_v _).mono ?_; rintro e w1 ⟨rfl, hb⟩
  replace na := na.below hb
  replace nb := nb.below hb
  replace ne := ne.below hb
  replace nf := nf.below hb
  replace nm := nm.below hb
  replace hB := hB.trans (hb.mono hB.size)
  clear hb
  obtain ⟨qm, hqm⟩ : ∃ q, q = nl m := ⟨_, rfl⟩
  obtain ⟨qe, hqe⟩ : ∃ q, q = nl e := ⟨_, rfl⟩
  obtain ⟨qf, hqf⟩ : ∃ q, q = nl f := ⟨_, rfl⟩
  have hhb : hugeB m e f = decide (qm ≤ 128 ∧ qe + qf ≤ 256 ∧ 1000000 < qm * qm * (qe + qf)) := by rw [hqm, hqe, hqf]; rfl
  rw [HH.out] at hhb
  have HHB := Lib.hid hhb
  have be : qe ≤ 1048576 := by rw [hqe]; exact nl_lim le
  have bf : qf ≤ 1048576 := by rw [hqf]; exact nl_lim lf
  have HQM := Lib.hid hqm
  have HQE := Lib.hid hqe
  have HQF := Lib.hid hqf
  clear hqm hqe hqf hhb
  go_upto_region 3 with fail
  go_cut [52] (fun c wx => IsB false c ∧ w1 = wx)
  case first =>
    have tm := limbs_v nm
    have te := limbs_v ne
    have tf := limbs_v nf
    rw [← HQM.out] at tm
    rw [← HQE.out] at te
    rw [← HQF.out] at tf
    by_cases h1 : qm ≤ 128
    · have d1 : decide ((qm : Int) ≤ 128) = true := decide_eq_true (by omega)
      by_cases h2 : qe + qf ≤ 256
      · have d2 : decide ((qe : Int) + (qf : Int) ≤ 256) = true := decide_eq_true (by omega)
        have m1 : qm * qm ≤ 16384 := Nat.mul_le_mul h1 h1
        obtain ⟨mm, hmm⟩ : ∃ mm, mm = qm * qm := ⟨_, rfl⟩
        have em : (qm : Int) * (qm : Int) = (mm : Int) := by rw [hmm, Int.natCast_mul]
        obtain ⟨ss, hss⟩ : ∃ ss, ss = qe + qf := ⟨_, rfl⟩
        have es : (qe : Int) + (qf : Int) = (ss : Int) := by omega
        rw [← hmm] at m1
        rw [← hss] at h2
        have m2 : mm * ss ≤ 4194304 := Nat.mul_le_mul m1 h2
        obtain ⟨pp, hpp⟩ : ∃ pp, pp = mm * ss := ⟨_, rfl⟩
        have ep : (mm : Int) * (ss : Int) = (pp : Int) := by rw [hpp, Int.natCast_mul]
        rw [← hpp] at m2
        have d3 : decide ((1000000 : Int) < (pp : Int)) = false := by
          have := HHB.out
          rw [← hmm, ← hss, ← hpp] at this
          rw [this, decide_eq_decide]
          omega
        have d3n : decide (1000000 < pp) = false := by
          rw [← d3, decide_eq_decide]
          omega
        have w1_ : IntKind.i64.wrap ((qm : Int) * (qm : Int)) = (mm : Int) := by rw [em, IntKind.wrap_i64]; omega
        have w3_ : IntKind.i64.wrap ((mm : Int) * (ss : Int)) = (pp : Int) := by rw [ep, IntKind.wrap_i64]; omega
        rw [es] at d2
        clear hmm hss hpp
        go_wp2_with fail
        refine tm.mono ?_; rintro e_ w' ⟨rfl, rfl⟩
        go_wp2_with fail
        refine te.mono ?_; rintro e_ w' ⟨rfl, rfl⟩
        go_wp2_with fail
        refine tf.mono ?_; rintro e_ w' ⟨rfl, rfl⟩
        go_wp2_with fail
        refine tm.mono ?_; rintro e_ w' ⟨rfl, rfl⟩
        go_wp2_with fail
        refine tm.mono ?_; rintro e_ w' ⟨rfl, rfl⟩
        go_wp2_with fail
        refine te.mono ?_; rintro e_ w' ⟨rfl, rfl⟩
        go_wp2_with fail
        refine tf.mono ?_; rintro e_ w' ⟨rfl, rfl⟩
        go_wp2_with fail
        go_meet
        exact ⟨rfl, rfl⟩
      · have d2 : decide ((qe : Int) + (qf : Int) ≤ 256) = false := decide_eq_false (by omega)
        clear h2
        go_wp2_with fail
        refine tm.mono ?_; rintro e_ w' ⟨rfl, rfl⟩
        go_wp2_with fail
        refine te.mono ?_; rintro e_ w' ⟨rfl, rfl⟩
        go_wp2_with fail
        refine tf.mono ?_; rintro e_ w' ⟨rfl, rfl⟩
        go_wp2_with fail
        go_meet
        exact ⟨rfl, rfl⟩
    · have d1 : decide ((qm : Int) ≤ 128) = false := decide_eq_false (by omega)
      clear h1
      go_wp2_with fail
      refine tm.mono ?_; rintro e_ w' ⟨rfl, rfl⟩
      go_wp2_with fail
      go_meet
      exact ⟨rfl, rfl⟩
  case rest =>
    obtain ⟨rfl, rfl⟩ := hcut
    clear HHB be bf HQM HQE HQF
    go_wp2_with fail
    refine (mExp_no na ne nm EC.out NO.out).mono ?_; rintro e w2 ⟨rfl, hb⟩
    replace na := na.below hb
    replace nb := nb.below hb
    replace ne := ne.below hb
    replace nf := nf.below hb
    replace nm := nm.below hb
    replace hB := hB.trans (hb.mono hB.size)
    clear hb
    go_wp2_with fail
    refine (refuses_v na ne nm).mono ?_; rintro e w' ⟨rfl, rfl⟩
    rw [EC.out]
    go_wp2_with fail
    go_ret
    exact ⟨rfl, hB⟩

set_option maxHeartbeats 16000000 in
set_option maxRecDepth 100000 in
theorem ModnExp_f {va vb ve vf vm : Value} {a b e f m : Nat} {w : World} (na : NumAt w va a) (nb : NumAt w vb b) (ne : NumAt w ve e) (nf : NumAt w vf f) (nm : NumAt w vm m) (la : Lim 1048576 a) (lb : Lim 1048576 b) (le : Lim 1048576 e) (lf : Lim 1048576 f) (lm : Lim 1048576 m) (hh : hugeB m e f = false) (ok : Ok3 a e m) (xf : bigB f = true) :
    Calls Try.prog 13 #[va, vb, ve, vf, vm] w (TruePost w) := by
  have Xf := Lib.hid xf
  clear xf
  have OK := Lib.hid ok
  have m0 : Hid (0 < m) := Lib.hid (by have := ok.two; omega)
  have m2 := Lib.hid ok.two
  clear ok
  have HH := Lib.hid hh
  clear hh
  go_enter Try.func13, Try.ntmps13
  have hB := Below.refl w.heap.size w
  go_wp2_with fail
  refine (awake_v _).mono ?_; rintro e w1 ⟨rfl, hb⟩
  replace na := na.below hb
  replace nb := nb.below hb
  replace ne := ne.below hb
  replace nf := nf.below hb
  replace nm := nm.below hb
  replace hB := hB.trans (hb.mono hB.size)
  clear hb
  obtain ⟨qm, hqm⟩ : ∃ q, q = nl m := ⟨_, rfl⟩
  obtain ⟨qe, hqe⟩ : ∃ q, q = nl e := ⟨_, rfl⟩
  obtain ⟨qf, hqf⟩ : ∃ q, q = nl f := ⟨_, rfl⟩
  have hhb : hugeB m e f = decide (qm ≤ 128 ∧ qe + qf ≤ 256 ∧ 1000000 < qm * qm * (qe + qf)) := by rw [hqm, hqe, hqf]; rfl
  rw [HH.out] at hhb
  have HHB := Lib.hid hhb
  have be : qe ≤ 1048576 := by rw [hqe]; exact nl_lim le
  have bf : qf ≤ 1048576 := by rw [hqf]; exact nl_lim lf
  have HQM := Lib.hid hqm
  have HQE := Lib.hid hqe
  have HQF := Lib.hid hqf
  clear hqm hqe hqf hhb
  go_upto_region 3 with fail
  go_cut [52] (fun c wx => IsB false c ∧ w1 = wx)
  case first =>
    have tm := limbs_v nm
    have te := limbs_v ne
    have tf := limbs_v nf
    rw [← HQM.out] at tm
    rw [← HQE.out] at te
    rw [← HQF.out] at tf
    by_cases h1 : qm ≤ 128
    · have d1 : decide ((qm : Int) ≤ 128) = true := decide_eq_true (by omega)
      by_cases h2 : qe + qf ≤ 256
      · have d2 : decide ((qe : Int) + (qf : Int) ≤ 256) = true := decide_eq_true (by omega)
        have m1 : qm * qm ≤ 16384 := Nat.mul_le_mul h1 h1
        obtain ⟨mm, hmm⟩ : ∃ mm, mm = qm * qm := ⟨_, rfl⟩
        have em : (qm : Int) * (qm : Int) = (mm : Int) := by rw [hmm, Int.natCast_mul]
        obtain ⟨ss, hss⟩ : ∃ ss, ss = qe + qf := ⟨_, rfl⟩
        have es : (qe : Int) + (qf : Int) = (ss : Int) := by omega
        rw [← hmm] at m1
        rw [← hss] at h2
        have m2 : mm * ss ≤ 4194304 := Nat.mul_le_mul m1 h2
        obtain ⟨pp, hpp⟩ : ∃ pp, pp = mm * ss := ⟨_, rfl⟩
        have ep : (mm : Int) * (ss : Int) = (pp : Int) := by rw [hpp, Int.natCast_mul]
        rw [← hpp] at m2
        have d3 : decide ((1000000 : Int) < (pp : Int)) = false := by
          have := HHB.out
          rw [← hmm, ← hss, ← hpp] at this
          rw [this, decide_eq_decide]
          omega
        have d3n : decide (1000000 < pp) = false := by
          rw [← d3, decide_eq_decide]
          omega
        have w1_ : IntKind.i64.wrap ((qm : Int) * (qm : Int)) = (mm : Int) := by rw [em, IntKind.wrap_i64]; omega
        have w3_ : IntKind.i64.wrap ((mm : Int) * (ss : Int)) = (pp : Int) := by rw [ep, IntKind.wrap_i64]; omega
        rw [es] at d2
        clear hmm hss hpp
        go_wp2_with fail
        refine tm.mono ?_; rintro e_ w' ⟨rfl, rfl⟩
        go_wp2_with fail
        refine te.mono ?_; rintro e_ w' ⟨rfl, rfl⟩
        go_wp2_with fail
        refine tf.mono ?_; rintro e_ w' ⟨rfl, rfl⟩
        go_wp2_with fail
        refine tm.mono ?_; rintro e_ w' ⟨rfl, rfl⟩
        go_wp2_with fail
        refine tm.mono ?_; rintro e_ w' ⟨rfl, rfl⟩
        go_wp2_with fail
        refine te.mono ?_; rintro e_ w' ⟨rfl, rfl⟩
        go_wp2_with fail
        refine tf.mono ?_; rintro e_ w' ⟨rfl, rfl⟩
        go_wp2_with fail
        go_meet
        exact ⟨rfl, rfl⟩
      · have d2 : decide ((qe : Int) + (qf : Int) ≤ 256) = false := decide_eq_false (by omega)
        clear h2
        go_wp2_with fail
        refine tm.mono ?_; rintro e_ w' ⟨rfl, rfl⟩
        go_wp2_with fail
        refine te.mono ?_; rintro e_ w' ⟨rfl, rfl⟩
        go_wp2_with fail
        refine tf.mono ?_; rintro e_ w' ⟨rfl, rfl⟩
        go_wp2_with fail
        go_meet
        exact ⟨rfl, rfl⟩
    · have d1 : decide ((qm : Int) ≤ 128) = false := decide_eq_false (by omega)
      clear h1
      go_wp2_with fail
      refine tm.mono ?_; rintro e_ w' ⟨rfl, rfl⟩
      go_wp2_with fail
      go_meet
      exact ⟨rfl, rfl⟩
  case rest =>
    obtain ⟨rfl, rfl⟩ := hcut
    clear HHB be bf HQM HQE HQF
    go_wp2_with fail
    refine (mExp_ok na ne nm OK.out).mono ?_; rintro e w2 ⟨vx, rfl, cx, hb⟩
    replace na := na.below hb
    replace nb := nb.below hb
    replace ne := ne.below hb
    replace nf := nf.below hb
    replace nm := nm.below hb
    replace hB := hB.trans (hb.mono hB.size)
    clear hb
    go_wp2_with fail
    refine (refuses_v na ne nm).mono ?_; rintro e w' ⟨rfl, rfl⟩
    rw [OK.out.code]
    have ok0 : Hid (Ok3 a 0 m) := Lib.hid ⟨OK.out.pa, rfl, OK.out.pm, OK.out.two⟩
    have ok1 : Hid (Ok3 a 1 m) := Lib.hid ⟨OK.out.pa, by decide, OK.out.pm, OK.out.two⟩
    go_wp2_with fail
    refine (mExp_ok na (num_nil _) nm ok0.out).mono ?_; rintro e w3 ⟨vz, rfl, cz, hb⟩
    replace na := na.below hb
    replace nb := nb.below hb
    replace ne := ne.below hb
    replace nf := nf.below hb
    replace nm := nm.below hb
    replace cx := cx.below hb
    replace hB := hB.trans (hb.mono hB.size)
    clear hb
    have hb := below_one w3 (.cells #[.int .u32 1] 52)
    replace na := na.below hb
    replace nb := nb.below hb
    replace ne := ne.below hb
    replace nf := nf.below hb
    replace nm := nm.below hb
    replace cx := cx.below hb
    replace cz := cz.below hb
    replace hB := hB.trans (hb.mono hB.size)
    clear hb
    have co := can_lit w3 (w3.heap.size) 1 1 rfl (by simp) (by omega) (by omega)
    go_wp2_with fail
    refine (mExp_ok na co.num nm ok1.out).mono ?_; rintro e w4 ⟨vn1, rfl, cn1, hb⟩
    replace na := na.below hb
    replace nb := nb.below hb
    replace ne := ne.below hb
    replace nf := nf.below hb
    replace nm := nm.below hb
    replace cx := cx.below hb
    replace cz := cz.below hb
    replace co := co.below hb
    replace hB := hB.trans (hb.mono hB.size)
    clear hb
    clear co
    have hb := below_one w4 (.cells #[.int .u32 1] 52)
    replace na := na.below hb
    replace nb := nb.below hb
    replace ne := ne.below hb
    replace nf := nf.below hb
    replace nm := nm.below hb
    replace cx := cx.below hb
    replace cz := cz.below hb
    replace cn1 := cn1.below hb
    replace hB := hB.trans (hb.mono hB.size)
    clear hb
    have co := can_lit w4 (w4.heap.size) 1 1 rfl (by simp) (by omega) (by omega)
    go_wp2_with fail
    refine (same_yes cz co (by rw [Nat.pow_zero]; exact Nat.mod_eq_of_lt m2.out)).mono ?_; rintro e w5 ⟨rfl, hb⟩
    replace na := na.below hb.b
    replace nb := nb.below hb.b
    replace ne := ne.below hb.b
    replace nf := nf.below hb.b
    replace nm := nm.below hb.b
    replace cx := cx.below hb.b
    replace cz := cz.below hb.b
    replace cn1 := cn1.below hb.b
    replace co := co.below hb.b
    replace hB := hB.trans (hb.b.mono hB.size)
    clear hb
    clear cz
    clear co
    go_wp2_with fail
    refine (is_yes cn1 na nm m0.out (by rw [Nat.pow_one])).mono ?_; rintro e w6 ⟨rfl, hb⟩
    replace na := na.below hb
    replace nb := nb.below hb
    replace ne := ne.below hb
    replace nf := nf.below hb
    replace nm := nm.below hb
    replace cx := cx.below hb
    replace cn1 := cn1.below hb
    replace hB := hB.trans (hb.mono hB.size)
    clear hb
    clear cn1
    go_wp2_with fail
    refine (cmp_v cx.num nm).mono ?_; rintro e w7 ⟨rfl, hb⟩
    replace na := na.below hb.b
    replace nb := nb.below hb.b
    replace ne := ne.below hb.b
    replace nf := nf.below hb.b
    replace nm := nm.below hb.b
    replace cx := cx.below hb.b
    replace hB := hB.trans (hb.b.mono hB.size)
    clear hb
    rw [cmpI_lt (Nat.mod_lt _ m0.out)]
    go_wp2_with fail
    refine (add_can ne nf le lf (by omega)).mono ?_; rintro e w8 ⟨vsum, rfl, csum, hb⟩
    replace na := na.below hb
    replace nb := nb.below hb
    replace ne := ne.below hb
    replace nf := nf.below hb
    replace nm := nm.below hb
    replace cx := cx.below hb
    replace hB := hB.trans (hb.mono hB.size)
    clear hb
    obtain ⟨q1, hq1⟩ : ∃ q, q = nl (f) := ⟨_, rfl⟩
    have hd1 : decide ((128 : Int) < (q1 : Int)) = true := by have h := nl_big (f); rw [Xf.out, ← hq1] at h; have := of_decide_eq_true h; exact decide_eq_true (by omega)
    have HQ1 := Lib.hid hq1
    clear hq1
    go_wp2_with fail
    refine (limbs_v nf).mono ?_; rintro e w' ⟨rfl, rfl⟩
    rw [← HQ1.out]
    go_wp2_with fail
    go_ret
    exact ⟨rfl, hB⟩

set_option maxHeartbeats 16000000 in
set_option maxRecDepth 100000 in
theorem ModnExp_s {va vb ve vf vm : Value} {a b e f m : Nat} {w : World} (na : NumAt w va a) (nb : NumAt w vb b) (ne : NumAt w ve e) (nf : NumAt w vf f) (nm : NumAt w vm m) (la : Lim 1048576 a) (lb : Lim 1048576 b) (le : Lim 1048576 e) (lf : Lim 1048576 f) (lm : Lim 1048576 m) (hh : hugeB m e f = false) (ok : Ok3 a e m) (xf : bigB f = false) (xs : bigB (e + f) = true) :
    Calls Try.prog 13 #[va, vb, ve, vf, vm] w (TruePost w) := by
  have Xf := Lib.hid xf
  clear xf
  have Xs := Lib.hid xs
  clear xs
  have OK := Lib.hid ok
  have m0 : Hid (0 < m) := Lib.hid (by have := ok.two; omega)
  have m2 := Lib.hid ok.two
  clear ok
  have HH := Lib.hid hh
  clear hh
  go_enter Try.func13, Try.ntmps13
  have hB := Below.refl w.heap.size w
  go_wp2_with fail
  refine (awake_v _).mono ?_; rintro e w1 ⟨rfl, hb⟩
  replace na := na.below hb
  replace nb := nb.below hb
  replace ne := ne.below hb
  replace nf := nf.below hb
  replace nm := nm.below hb
  replace hB := hB.trans (hb.mono hB.size)
  clear hb
  obtain ⟨qm, hqm⟩ : ∃ q, q = nl m := ⟨_, rfl⟩
  obtain ⟨qe, hqe⟩ : ∃ q, q = nl e := ⟨_, rfl⟩
  obtain ⟨qf, hqf⟩ : ∃ q, q = nl f := ⟨_, rfl⟩
  have hhb : hugeB m e f = decide (qm ≤ 128 ∧ qe + qf ≤ 256 ∧ 1000000 < qm * qm * (qe + qf)) := by rw [hqm, hqe, hqf]; rfl
  rw [HH.out] at hhb
  have HHB := Lib.hid hhb
  have be : qe ≤ 1048576 := by rw [hqe]; exact nl_lim le
  have bf : qf ≤ 1048576 := by rw [hqf]; exact nl_lim lf
  have HQM := Lib.hid hqm
  have HQE := Lib.hid hqe
  have HQF := Lib.hid hqf
  clear hqm hqe hqf hhb
  go_upto_region 3 with fail
  go_cut [52] (fun c wx => IsB false c ∧ w1 = wx)
  case first =>
    have tm := limbs_v nm
    have te := limbs_v ne
    have tf := limbs_v nf
    rw [← HQM.out] at tm
    rw [← HQE.out] at te
    rw [← HQF.out] at tf
    by_cases h1 : qm ≤ 128
    · have d1 : decide ((qm : Int) ≤ 128) = true := decide_eq_true (by omega)
      by_cases h2 : qe + qf ≤ 256
      · have d2 : decide ((qe : Int) + (qf : Int) ≤ 256) = true := decide_eq_true (by omega)
        have m1 : qm * qm ≤ 16384 := Nat.mul_le_mul h1 h1
        obtain ⟨mm, hmm⟩ : ∃ mm, mm = qm * qm := ⟨_, rfl⟩
        have em : (qm : Int) * (qm : Int) = (mm : Int) := by rw [hmm, Int.natCast_mul]
        obtain ⟨ss, hss⟩ : ∃ ss, ss = qe + qf := ⟨_, rfl⟩
        have es : (qe : Int) + (qf : Int) = (ss : Int) := by omega
        rw [← hmm] at m1
        rw [← hss] at h2
        have m2 : mm * ss ≤ 4194304 := Nat.mul_le_mul m1 h2
        obtain ⟨pp, hpp⟩ : ∃ pp, pp = mm * ss := ⟨_, rfl⟩
        have ep : (mm : Int) * (ss : Int) = (pp : Int) := by rw [hpp, Int.natCast_mul]
        rw [← hpp] at m2
        have d3 : decide ((1000000 : Int) < (pp : Int)) = false := by
          have := HHB.out
          rw [← hmm, ← hss, ← hpp] at this
          rw [this, decide_eq_decide]
          omega
        have d3n : decide (1000000 < pp) = false := by
          rw [← d3, decide_eq_decide]
          omega
        have w1_ : IntKind.i64.wrap ((qm : Int) * (qm : Int)) = (mm : Int) := by rw [em, IntKind.wrap_i64]; omega
        have w3_ : IntKind.i64.wrap ((mm : Int) * (ss : Int)) = (pp : Int) := by rw [ep, IntKind.wrap_i64]; omega
        rw [es] at d2
        clear hmm hss hpp
        go_wp2_with fail
        refine tm.mono ?_; rintro e_ w' ⟨rfl, rfl⟩
        go_wp2_with fail
        refine te.mono ?_; rintro e_ w' ⟨rfl, rfl⟩
        go_wp2_with fail
        refine tf.mono ?_; rintro e_ w' ⟨rfl, rfl⟩
        go_wp2_with fail
        refine tm.mono ?_; rintro e_ w' ⟨rfl, rfl⟩
        go_wp2_with fail
        refine tm.mono ?_; rintro e_ w' ⟨rfl, rfl⟩
        go_wp2_with fail
        refine te.mono ?_; rintro e_ w' ⟨rfl, rfl⟩
        go_wp2_with fail
        refine tf.mono ?_; rintro e_ w' ⟨rfl, rfl⟩
        go_wp2_with fail
        go_meet
        exact ⟨rfl, rfl⟩
      · have d2 : decide ((qe : Int) + (qf : Int) ≤ 256) = false := decide_eq_false (by omega)
        clear h2
        go_wp2_with fail
        refine tm.mono ?_; rintro e_ w' ⟨rfl, rfl⟩
        go_wp2_with fail
        refine te.mono ?_; rintro e_ w' ⟨rfl, rfl⟩
        go_wp2_with fail
        refine tf.mono ?_; rintro e_ w' ⟨rfl, rfl⟩
        go_wp2_with fail
        go_meet
        exact ⟨rfl, rfl⟩
    · have d1 : decide ((qm : Int) ≤ 128) = false := decide_eq_false (by omega)
      clear h1
      go_wp2_with fail
      refine tm.mono ?_; rintro e_ w' ⟨rfl, rfl⟩
      go_wp2_with fail
      go_meet
      exact ⟨rfl, rfl⟩
  case rest =>
    obtain ⟨rfl, rfl⟩ := hcut
    clear HHB be bf HQM HQE HQF
    go_wp2_with fail
    refine (mExp_ok na ne nm OK.out).mono ?_; rintro e w2 ⟨vx, rfl, cx, hb⟩
    replace na := na.below hb
    replace nb := nb.below hb
    replace ne := ne.below hb
    replace nf := nf.below hb
    replace nm := nm.below hb
    replace hB := hB.trans (hb.mono hB.size)
    clear hb
    go_wp2_with fail
    refine (refuses_v na ne nm).mono ?_; rintro e w' ⟨rfl, rfl⟩
    rw [OK.out.code]
    have ok0 : Hid (Ok3 a 0 m) := Lib.hid ⟨OK.out.pa, rfl, OK.out.pm, OK.out.two⟩
    have ok1 : Hid (Ok3 a 1 m) := Lib.hid ⟨OK.out.pa, by decide, OK.out.pm, OK.out.two⟩
    go_wp2_with fail
    refine (mExp_ok na (num_nil _) nm ok0.out).mono ?_; rintro e w3 ⟨vz, rfl, cz, hb⟩
    replace na := na.below hb
    replace nb := nb.below hb
    replace ne := ne.below hb
    replace nf := nf.below hb
    replace nm := nm.below hb
    replace cx := cx.below hb
    replace hB := hB.trans (hb.mono hB.size)
    clear hb
    have hb := below_one w3 (.cells #[.int .u32 1] 52)
    replace na := na.below hb
    replace nb := nb.below hb
    replace ne := ne.below hb
    replace nf := nf.below hb
    replace nm := nm.below hb
    replace cx := cx.below hb
    replace cz := cz.below hb
    replace hB := hB.trans (hb.mono hB.size)
    clear hb
    have co := can_lit w3 (w3.heap.size) 1 1 rfl (by simp) (by omega) (by omega)
    go_wp2_with fail
    refine (mExp_ok na co.num nm ok1.out).mono ?_; rintro e w4 ⟨vn1, rfl, cn1, hb⟩
    replace na := na.below hb
    replace nb := nb.below hb
    replace ne := ne.below hb
    replace nf := nf.below hb
    replace nm := nm.below hb
    replace cx := cx.below hb
    replace cz := cz.below hb
    replace co := co.below hb
    replace hB := hB.trans (hb.mono hB.size)
    clear hb
    clear co
    have hb := below_one w4 (.cells #[.int .u32 1] 52)
    replace na := na.below hb
    replace nb := nb.below hb
    replace ne := ne.below hb
    replace nf := nf.below hb
    replace nm := nm.below hb
    replace cx := cx.below hb
    replace cz := cz.below hb
    replace cn1 := cn1.below hb
    replace hB := hB.trans (hb.mono hB.size)
    clear hb
    have co := can_lit w4 (w4.heap.size) 1 1 rfl (by simp) (by omega) (by omega)
    go_wp2_with fail
    refine (same_yes cz co (by rw [Nat.pow_zero]; exact Nat.mod_eq_of_lt m2.out)).mono ?_; rintro e w5 ⟨rfl, hb⟩
    replace na := na.below hb.b
    replace nb := nb.below hb.b
    replace ne := ne.below hb.b
    replace nf := nf.below hb.b
    replace nm := nm.below hb.b
    replace cx := cx.below hb.b
    replace cz := cz.below hb.b
    replace cn1 := cn1.below hb.b
    replace co := co.below hb.b
    replace hB := hB.trans (hb.b.mono hB.size)
    clear hb
    clear cz
    clear co
    go_wp2_with fail
    refine (is_yes cn1 na nm m0.out (by rw [Nat.pow_one])).mono ?_; rintro e w6 ⟨rfl, hb⟩
    replace na := na.below hb
    replace nb := nb.below hb
    replace ne := ne.below hb
    replace nf := nf.below hb
    replace nm := nm.below hb
    replace cx := cx.below hb
    replace cn1 := cn1.below hb
    replace hB := hB.trans (hb.mono hB.size)
    clear hb
    clear cn1
    go_wp2_with fail
    refine (cmp_v cx.num nm).mono ?_; rintro e w7 ⟨rfl, hb⟩
    replace na := na.below hb.b
    replace nb := nb.below hb.b
    replace ne := ne.below hb.b
    replace nf := nf.below hb.b
    replace nm := nm.below hb.b
    replace cx := cx.below hb.b
    replace hB := hB.trans (hb.b.mono hB.size)
    clear hb
    rw [cmpI_lt (Nat.mod_lt _ m0.out)]
    go_wp2_with fail
    refine (add_can ne nf le lf (by omega)).mono ?_; rintro e w8 ⟨vsum, rfl, csum, hb⟩
    replace na := na.below hb
    replace nb := nb.below hb
    replace ne := ne.below hb
    replace nf := nf.below hb
    replace nm := nm.below hb
    replace cx := cx.below hb
    replace hB := hB.trans (hb.mono hB.size)
    clear hb
    obtain ⟨q1, hq1⟩ : ∃ q, q = nl (f) := ⟨_, rfl⟩
    have hd1 : decide ((128 : Int) < (q1 : Int)) = false := by have h := nl_big (f); rw [Xf.out, ← hq1] at h; have := of_decide_eq_false h; exact decide_eq_false (by omega)
    have HQ1 := Lib.hid hq1
    clear hq1
    go_wp2_with fail
    refine (limbs_v nf).mono ?_; rintro e w' ⟨rfl, rfl⟩
    rw [← HQ1.out]
    obtain ⟨q2, hq2⟩ : ∃ q, q = nl (e + f) := ⟨_, rfl⟩
    have hd2 : decide ((128 : Int) < (q2 : Int)) = true := by have h := nl_big (e + f); rw [Xs.out, ← hq2] at h; have := of_decide_eq_true h; exact decide_eq_true (by omega)
    have HQ2 := Lib.hid hq2
    clear hq2
    go_wp2_with fail
    refine (limbs_v csum.num).mono ?_; rintro e w' ⟨rfl, rfl⟩
    rw [← HQ2.out]
    go_wp2_with fail
    go_ret
    exact ⟨rfl, hB⟩

set_option maxHeartbeats 16000000 in
set_option maxRecDepth 100000 in
theorem ModnExp_b {va vb ve vf vm : Value} {a b e f m : Nat} {w : World} (na : NumAt w va a) (nb : NumAt w vb b) (ne : NumAt w ve e) (nf : NumAt w vf f) (nm : NumAt w vm m) (la : Lim 1048576 a) (lb : Lim 1048576 b) (le : Lim 1048576 e) (lf : Lim 1048576 f) (lm : Lim 1048576 m) (hh : hugeB m e f = false) (ok : Ok3 a e m) (xf : bigB f = false) (xs : bigB (e + f) = false) (xb : bigB b = true) :
    Calls Try.prog 13 #[va, vb, ve, vf, vm] w (TruePost w) := by
  have Xf := Lib.hid xf
  clear xf
  have Xs := Lib.hid xs
  clear xs
  have Xb := Lib.hid xb
  clear xb
  have OK := Lib.hid ok
  have m0 : Hid (0 < m) := Lib.hid (by have := ok.two; omega)
  have m2 := Lib.hid ok.two
  clear ok
  have HH := Lib.hid hh
  clear hh
  go_enter Try.func13, Try.ntmps13
  have hB := Below.refl w.heap.size w
  go_wp2_with fail
  refine (awake_v _).mono ?_; rintro e w1 ⟨rfl, hb⟩
  replace na := na.below hb
  replace nb := nb.below hb
  replace ne := ne.below hb
  replace nf := nf.below hb
  replace nm := nm.below hb
  replace hB := hB.trans (hb.mono hB.size)
  clear hb
  obtain ⟨qm, hqm⟩ : ∃ q, q = nl m := ⟨_, rfl⟩
  obtain ⟨qe, hqe⟩ : ∃ q, q = nl e := ⟨_, rfl⟩
  obtain ⟨qf, hqf⟩ : ∃ q, q = nl f := ⟨_, rfl⟩
  have hhb : hugeB m e f = decide (qm ≤ 128 ∧ qe + qf ≤ 256 ∧ 1000000 < qm * qm * (qe + qf)) := by rw [hqm, hqe, hqf]; rfl
  rw [HH.out] at hhb
  have HHB := Lib.hid hhb
  have be : qe ≤ 1048576 := by rw [hqe]; exact nl_lim le
  have bf : qf ≤ 1048576 := by rw [hqf]; exact nl_lim lf
  have HQM := Lib.hid hqm
  have HQE := Lib.hid hqe
  have HQF := Lib.hid hqf
  clear hqm hqe hqf hhb
  go_upto_region 3 with fail
  go_cut [52] (fun c wx => IsB false c ∧ w1 = wx)
  case first =>
    have tm := limbs_v nm
    have te := limbs_v ne
    have tf := limbs_v nf
    rw [← HQM.out] at tm
    rw [← HQE.out] at te
    rw [← HQF.out] at tf
    by_cases h1 : qm ≤ 128
    · have d1 : decide ((qm : Int) ≤ 128) = true := decide_eq_true (by omega)
      by_cases h2 : qe + qf ≤ 256
      · have d2 : decide ((qe : Int) + (qf : Int) ≤ 256) = true := decide_eq_true (by omega)
        have m1 : qm * qm ≤ 16384 := Nat.mul_le_mul h1 h1
        obtain ⟨mm, hmm⟩ : ∃ mm, mm = qm * qm := ⟨_, rfl⟩
        have em : (qm : Int) * (qm : Int) = (mm : Int) := by rw [hmm, Int.natCast_mul]
        obtain ⟨ss, hss⟩ : ∃ ss, ss = qe + qf := ⟨_, rfl⟩
        have es : (qe : Int) + (qf : Int) = (ss : Int) := by omega
        rw [← hmm] at m1
        rw [← hss] at h2
        have m2 : mm * ss ≤ 4194304 := Nat.mul_le_mul m1 h2
        obtain ⟨pp, hpp⟩ : ∃ pp, pp = mm * ss := ⟨_, rfl⟩
        have ep : (mm : Int) * (ss : Int) = (pp : Int) := by rw [hpp, Int.natCast_mul]
        rw [← hpp] at m2
        have d3 : decide ((1000000 : Int) < (pp : Int)) = false := by
          have := HHB.out
          rw [← hmm, ← hss, ← hpp] at this
          rw [this, decide_eq_decide]
          omega
        have d3n : decide (1000000 < pp) = false := by
          rw [← d3, decide_eq_decide]
          omega
        have w1_ : IntKind.i64.wrap ((qm : Int) * (qm : Int)) = (mm : Int) := by rw [em, IntKind.wrap_i64]; omega
        have w3_ : IntKind.i64.wrap ((mm : Int) * (ss : Int)) = (pp : Int) := by rw [ep, IntKind.wrap_i64]; omega
        rw [es] at d2
        clear hmm hss hpp
        go_wp2_with fail
        refine tm.mono ?_; rintro e_ w' ⟨rfl, rfl⟩
        go_wp2_with fail
        refine te.mono ?_; rintro e_ w' ⟨rfl, rfl⟩
        go_wp2_with fail
        refine tf.mono ?_; rintro e_ w' ⟨rfl, rfl⟩
        go_wp2_with fail
        refine tm.mono ?_; rintro e_ w' ⟨rfl, rfl⟩
        go_wp2_with fail
        refine tm.mono ?_; rintro e_ w' ⟨rfl, rfl⟩
        go_wp2_with fail
        refine te.mono ?_; rintro e_ w' ⟨rfl, rfl⟩
        go_wp2_with fail
        refine tf.mono ?_; rintro e_ w' ⟨rfl, rfl⟩
        go_wp2_with fail
        go_meet
        exact ⟨rfl, rfl⟩
      · have d2 : decide ((qe : Int) + (qf : Int) ≤ 256) = false := decide_eq_false (by omega)
        clear h2
        go_wp2_with fail
        refine tm.mono ?_; rintro e_ w' ⟨rfl, rfl⟩
        go_wp2_with fail
        refine te.mono ?_; rintro e_ w' ⟨rfl, rfl⟩
        go_wp2_with fail
        refine tf.mono ?_; rintro e_ w' ⟨rfl, rfl⟩
        go_wp2_with fail
        go_meet
        exact ⟨rfl, rfl⟩
    · have d1 : decide ((qm : Int) ≤ 128) = false := decide_eq_false (by omega)
      clear h1
      go_wp2_with fail
      refine tm.mono ?_; rintro e_ w' ⟨rfl, rfl⟩
      go_wp2_with fail
      go_meet
      exact ⟨rfl, rfl⟩
  case rest =>
    obtain ⟨rfl, rfl⟩ := hcut
    clear HHB be bf HQM HQE HQF
    go_wp2_with fail
    refine (mExp_ok na ne nm OK.out).mono ?_; rintro e w2 ⟨vx, rfl, cx, hb⟩
    replace na := na.below hb
    replace nb := nb.below hb
    replace ne := ne.below hb
    replace nf := nf.below hb
    replace nm := nm.below hb
    replace hB := hB.trans (hb.mono hB.size)
    clear hb
    go_wp2_with fail
    refine (refuses_v na ne nm).mono ?_; rintro e w' ⟨rfl, rfl⟩
    rw [OK.out.code]
    have ok0 : Hid (Ok3 a 0 m) := Lib.hid ⟨OK.out.pa, rfl, OK.out.pm, OK.out.two⟩
    have ok1 : Hid (Ok3 a 1 m) := Lib.hid ⟨OK.out.pa, by decide, OK.out.pm, OK.out.two⟩
    go_wp2_with fail
    refine (mExp_ok na (num_nil _) nm ok0.out).mono ?_; rintro e w3 ⟨vz, rfl, cz, hb⟩
    replace na := na.below hb
    replace nb := nb.below hb
    replace ne := ne.below hb
    replace nf := nf.below hb
    replace nm := nm.below hb
    replace cx := cx.below hb
    replace hB := hB.trans (hb.mono hB.size)
    clear hb
    have hb := below_one w3 (.cells #[.int .u32 1] 52)
    replace na := na.below hb
    replace nb := nb.below hb
    replace ne := ne.below hb
    replace nf := nf.below hb
    replace nm := nm.below hb
    replace cx := cx.below hb
    replace cz := cz.below hb
    replace hB := hB.trans (hb.mono hB.size)
    clear hb
    have co := can_lit w3 (w3.heap.size) 1 1 rfl (by simp) (by omega) (by omega)
    go_wp2_with fail
    refine (mExp_ok na co.num nm ok1.out).mono ?_; rintro e w4 ⟨vn1, rfl, cn1, hb⟩
    replace na := na.below hb
    replace nb := nb.below hb
    replace ne := ne.below hb
    replace nf := nf.below hb
    replace nm := nm.below hb
    replace cx := cx.below hb
    replace cz := cz.below hb
    replace co := co.below hb
    replace hB := hB.trans (hb.mono hB.size)
    clear hb
    clear co
    have hb := below_one w4 (.cells #[.int .u32 1] 52)
    replace na := na.below hb
    replace nb := nb.below hb
    replace ne := ne.below hb
    replace nf := nf.below hb
    replace nm := nm.below hb
    replace cx := cx.below hb
    replace cz := cz.below hb
    replace cn1 := cn1.below hb
    replace hB := hB.trans (hb.mono hB.size)
    clear hb
    have co := can_lit w4 (w4.heap.size) 1 1 rfl (by simp) (by omega) (by omega)
    go_wp2_with fail
    refine (same_yes cz co (by rw [Nat.pow_zero]; exact Nat.mod_eq_of_lt m2.out)).mono ?_; rintro e w5 ⟨rfl, hb⟩
    replace na := na.below hb.b
    replace nb := nb.below hb.b
    replace ne := ne.below hb.b
    replace nf := nf.below hb.b
    replace nm := nm.below hb.b
    replace cx := cx.below hb.b
    replace cz := cz.below hb.b
    replace cn1 := cn1.below hb.b
    replace co := co.below hb.b
    replace hB := hB.trans (hb.b.mono hB.size)
    clear hb
    clear cz
    clear co
    go_wp2_with fail
    refine (is_yes cn1 na nm m0.out (by rw [Nat.pow_one])).mono ?_; rintro e w6 ⟨rfl, hb⟩
    replace na := na.below hb
    replace nb := nb.below hb
    replace ne := ne.below hb
    replace nf := nf.below hb
    replace nm := nm.below hb
    replace cx := cx.below hb
    replace cn1 := cn1.below hb
    replace hB := hB.trans (hb.mono hB.size)
    clear hb
    clear cn1
    go_wp2_with fail
    refine (cmp_v cx.num nm).mono ?_; rintro e w7 ⟨rfl, hb⟩
    replace na := na.below hb.b
    replace nb := nb.below hb.b
    replace ne := ne.below hb.b
    replace nf := nf.below hb.b
    replace nm := nm.below hb.b
    replace cx := cx.below hb.b
    replace hB := hB.trans (hb.b.mono hB.size)
    clear hb
    rw [cmpI_lt (Nat.mod_lt _ m0.out)]
    go_wp2_with fail
    refine (add_can ne nf le lf (by omega)).mono ?_; rintro e w8 ⟨vsum, rfl, csum, hb⟩
    replace na := na.below hb
    replace nb := nb.below hb
    replace ne := ne.below hb
    replace nf := nf.below hb
    replace nm := nm.below hb
    replace cx := cx.below hb
    replace hB := hB.trans (hb.mono hB.size)
    clear hb
    obtain ⟨q1, hq1⟩ : ∃ q, q = nl (f) := ⟨_, rfl⟩
    have hd1 : decide ((128 : Int) < (q1 : Int)) = false := by have h := nl_big (f); rw [Xf.out, ← hq1] at h; have := of_decide_eq_false h; exact decide_eq_false (by omega)
    have HQ1 := Lib.hid hq1
    clear hq1
    go_wp2_with fail
    refine (limbs_v nf).mono ?_; rintro e w' ⟨rfl, rfl⟩
    rw [← HQ1.out]
    obtain ⟨q2, hq2⟩ : ∃ q, q = nl (e + f) := ⟨_, rfl⟩
    have hd2 : decide ((128 : Int) < (q2 : Int)) = false := by have h := nl_big (e + f); rw [Xs.out, ← hq2] at h; have := of_decide_eq_false h; exact decide_eq_false (by omega)
    have HQ2 := Lib.hid hq2
    clear hq2
    go_wp2_with fail
    refine (limbs_v csum.num).mono ?_; rintro e w' ⟨rfl, rfl⟩
    rw [← HQ2.out]
    obtain ⟨q3, hq3⟩ : ∃ q, q = nl (b) := ⟨_, rfl⟩
    have hd3 : decide ((128 : Int) < (q3 : Int)) = true := by have h := nl_big (b); rw [Xb.out, ← hq3] at h; have := of_decide_eq_true h; exact decide_eq_true (by omega)
    have HQ3 := Lib.hid hq3
    clear hq3
    go_wp2_with fail
    refine (limbs_v nb).mono ?_; rintro e w' ⟨rfl, rfl⟩
    rw [← HQ3.out]
    go_wp2_with fail
    go_ret
    exact ⟨rfl, hB⟩

set_option maxHeartbeats 16000000 in
set_option maxRecDepth 100000 in
theorem ModnExp_all {va vb ve vf vm : Value} {a b e f m : Nat} {w : World} (na : NumAt w va a) (nb : NumAt w vb b) (ne : NumAt w ve e) (nf : NumAt w vf f) (nm : NumAt w vm m) (la : Lim 1048576 a) (lb : Lim 1048576 b) (le : Lim 1048576 e) (lf : Lim 1048576 f) (lm : Lim 1048576 m) (hh : hugeB m e f = false) (ok : Ok3 a e m) (xf : bigB f = false) (xs : bigB (e + f) = false) (xb : bigB b = false) :
    Calls Try.prog 13 #[va, vb, ve, vf, vm] w (TruePost w) := by
  have Xf := Lib.hid xf
  clear xf
  have Xs := Lib.hid xs
  clear xs
  have Xb := Lib.hid xb
  clear xb
  have OK := Lib.hid ok
  have m0 : Hid (0 < m) := Lib.hid (by have := ok.two; omega)
  have m2 := Lib.hid ok.two
  clear ok
  have HH := Lib.hid hh
  clear hh
  go_enter Try.func13, Try.ntmps13
  have hB := Below.refl w.heap.size w
  go_wp2_with fail
  refine (awake_v _).mono ?_; rintro e w1 ⟨rfl, hb⟩
  replace na := na.below hb
  replace nb := nb.below hb
  replace ne := ne.below hb
  replace nf := nf.below hb
  replace nm := nm.below hb
  replace hB := hB.trans (hb.mono hB.size)
  clear hb
  obtain ⟨qm, hqm⟩ : ∃ q, q = nl m := ⟨_, rfl⟩
  obtain ⟨qe, hqe⟩ : ∃ q, q = nl e := ⟨_, rfl⟩
  obtain ⟨qf, hqf⟩ : ∃ q, q = nl f := ⟨_, rfl⟩
  have hhb : hugeB m e f = decide (qm ≤ 128 ∧ qe + qf ≤ 256 ∧ 1000000 < qm * qm * (qe + qf)) := by rw [hqm, hqe, hqf]; rfl
  rw [HH.out] at hhb
  have HHB := Lib.hid hhb
  have be : qe ≤ 1048576 := by rw [hqe]; exact nl_lim le
  have bf : qf ≤ 1048576 := by rw [hqf]; exact nl_lim lf
  have HQM := Lib.hid hqm
  have HQE := Lib.hid hqe
  have HQF := Lib.hid hqf
  clear hqm hqe hqf hhb
  go_upto_region 3 with fail
  go_cut [52] (fun c wx => IsB false c ∧ w1 = wx)
  case first =>
    have tm := limbs_v nm
    have te := limbs_v ne
    have tf := limbs_v nf
    rw [← HQM.out] at tm
    rw [← HQE.out] at te
    rw [← HQF.out] at tf
    by_cases h1 : qm ≤ 128
    · have d1 : decide ((qm : Int) ≤ 128) = true := decide_eq_true (by omega)
      by_cases h2 : qe + qf ≤ 256
      · have d2 : decide ((qe : Int) + (qf : Int) ≤ 256) = true := decide_eq_true (by omega)
        have m1 : qm * qm ≤ 16384 := Nat.mul_le_mul h1 h1
        obtain ⟨mm, hmm⟩ : ∃ mm, mm = qm * qm := ⟨_, rfl⟩
        have em : (qm : Int) * (qm : Int) = (mm : Int) := by rw [hmm, Int.natCast_mul]
        obtain ⟨ss, hss⟩ : ∃ ss, ss = qe + qf := ⟨_, rfl⟩
        have es : (qe : Int) + (qf : Int) = (ss : Int) := by omega
        rw [← hmm] at m1
        rw [← hss] at h2
        have m2 : mm * ss ≤ 4194304 := Nat.mul_le_mul m1 h2
        obtain ⟨pp, hpp⟩ : ∃ pp, pp = mm * ss := ⟨_, rfl⟩
        have ep : (mm : Int) * (ss : Int) = (pp : Int) := by rw [hpp, Int.natCast_mul]
        rw [← hpp] at m2
        have d3 : decide ((1000000 : Int) < (pp : Int)) = false := by
          have := HHB.out
          rw [← hmm, ← hss, ← hpp] at this
          rw [this, decide_eq_decide]
          omega
        have d3n : decide (1000000 < pp) = false := by
          rw [← d3, decide_eq_decide]
          omega
        have w1_ : IntKind.i64.wrap ((qm : Int) * (qm : Int)) = (mm : Int) := by rw [em, IntKind.wrap_i64]; omega
        have w3_ : IntKind.i64.wrap ((mm : Int) * (ss : Int)) = (pp : Int) := by rw [ep, IntKind.wrap_i64]; omega
        rw [es] at d2
        clear hmm hss hpp
        go_wp2_with fail
        refine tm.mono ?_; rintro e_ w' ⟨rfl, rfl⟩
        go_wp2_with fail
        refine te.mono ?_; rintro e_ w' ⟨rfl, rfl⟩
        go_wp2_with fail
        refine tf.mono ?_; rintro e_ w' ⟨rfl, rfl⟩
        go_wp2_with fail
        refine tm.mono ?_; rintro e_ w' ⟨rfl, rfl⟩
        go_wp2_with fail
        refine tm.mono ?_; rintro e_ w' ⟨rfl, rfl⟩
        go_wp2_with fail
        refine te.mono ?_; rintro e_ w' ⟨rfl, rfl⟩
        go_wp2_with fail
        refine tf.mono ?_; rintro e_ w' ⟨rfl, rfl⟩
        go_wp2_with fail
        go_meet
        exact ⟨rfl, rfl⟩
      · have d2 : decide ((qe : Int) + (qf : Int) ≤ 256) = false := decide_eq_false (by omega)
        clear h2
        go_wp2_with fail
        refine tm.mono ?_; rintro e_ w' ⟨rfl, rfl⟩
        go_wp2_with fail
        refine te.mono ?_; rintro e_ w' ⟨rfl, rfl⟩
        go_wp2_with fail
        refine tf.mono ?_; rintro e_ w' ⟨rfl, rfl⟩
        go_wp2_with fail
        go_meet
        exact ⟨rfl, rfl⟩
    · have d1 : decide ((qm : Int) ≤ 128) = false := decide_eq_false (by omega)
      clear h1
      go_wp2_with fail
      refine tm.mono ?_; rintro e_ w' ⟨rfl, rfl⟩
      go_wp2_with fail
      go_meet
      exact ⟨rfl, rfl⟩
  case rest =>
    obtain ⟨rfl, rfl⟩ := hcut
    clear HHB be bf HQM HQE HQF
    go_wp2_with fail
    refine (mExp_ok na ne nm OK.out).mono ?_; rintro e w2 ⟨vx, rfl, cx, hb⟩
    replace na := na.below hb
    replace nb := nb.below hb
    replace ne := ne.below hb
    replace nf := nf.below hb
    replace nm := nm.below hb
    replace hB := hB.trans (hb.mono hB.size)
    clear hb
    go_wp2_with fail
    refine (refuses_v na ne nm).mono ?_; rintro e w' ⟨rfl, rfl⟩
    rw [OK.out.code]
    have ok0 : Hid (Ok3 a 0 m) := Lib.hid ⟨OK.out.pa, rfl, OK.out.pm, OK.out.two⟩
    have ok1 : Hid (Ok3 a 1 m) := Lib.hid ⟨OK.out.pa, by decide, OK.out.pm, OK.out.two⟩
    go_wp2_with fail
    refine (mExp_ok na (num_nil _) nm ok0.out).mono ?_; rintro e w3 ⟨vz, rfl, cz, hb⟩
    replace na := na.below hb
    replace nb := nb.below hb
    replace ne := ne.below hb
    replace nf := nf.below hb
    replace nm := nm.below hb
    replace cx := cx.below hb
    replace hB := hB.trans (hb.mono hB.size)
    clear hb
    have hb := below_one w3 (.cells #[.int .u32 1] 52)
    replace na := na.below hb
    replace nb := nb.below hb
    replace ne := ne.below hb
    replace nf := nf.below hb
    replace nm := nm.below hb
    replace cx := cx.below hb
    replace cz := cz.below hb
    replace hB := hB.trans (hb.mono hB.size)
    clear hb
    have co := can_lit w3 (w3.heap.size) 1 1 rfl (by simp) (by omega) (by omega)
    go_wp2_with fail
    refine (mExp_ok na co.num nm ok1.out).mono ?_; rintro e w4 ⟨vn1, rfl, cn1, hb⟩
    replace na := na.below hb
    replace nb := nb.below hb
    replace ne := ne.below hb
    replace nf := nf.below hb
    replace nm := nm.below hb
    replace cx := cx.below hb
    replace cz := cz.below hb
    replace co := co.below hb
    replace hB := hB.trans (hb.mono hB.size)
    clear hb
    clear co
    have hb := below_one w4 (.cells #[.int .u32 1] 52)
    replace na := na.below hb
    replace nb := nb.below hb
    replace ne := ne.below hb
    replace nf := nf.below hb
    replace nm := nm.below hb
    replace cx := cx.below hb
    replace cz := cz.below hb
    replace cn1 := cn1.below hb
    replace hB := hB.trans (hb.mono hB.size)
    clear hb
    have co := can_lit w4 (w4.heap.size) 1 1 rfl (by simp) (by omega) (by omega)
    go_wp2_with fail
    refine (same_yes cz co (by rw [Nat.pow_zero]; exact Nat.mod_eq_of_lt m2.out)).mono ?_; rintro e w5 ⟨rfl, hb⟩
    replace na := na.below hb.b
    replace nb := nb.below hb.b
    replace ne := ne.below hb.b
    replace nf := nf.below hb.b
    replace nm := nm.below hb.b
    replace cx := cx.below hb.b
    replace cz := cz.below hb.b
    replace cn1 := cn1.below hb.b
    replace co := co.below hb.b
    replace hB := hB.trans (hb.b.mono hB.size)
    clear hb
    clear cz
    clear co
    go_wp2_with fail
    refine (is_yes cn1 na nm m0.out (by rw [Nat.pow_one])).mono ?_; rintro e w6 ⟨rfl, hb⟩
    replace na := na.below hb
    replace nb := nb.below hb
    replace ne := ne.below hb
    replace nf := nf.below hb
    replace nm := nm.below hb
    replace cx := cx.below hb
    replace cn1 := cn1.below hb
    replace hB := hB.trans (hb.mono hB.size)
    clear hb
    clear cn1
    go_wp2_with fail
    refine (cmp_v cx.num nm).mono ?_; rintro e w7 ⟨rfl, hb⟩
    replace na := na.below hb.b
    replace nb := nb.below hb.b
    replace ne := ne.below hb.b
    replace nf := nf.below hb.b
    replace nm := nm.below hb.b
    replace cx := cx.below hb.b
    replace hB := hB.trans (hb.b.mono hB.size)
    clear hb
    rw [cmpI_lt (Nat.mod_lt _ m0.out)]
    go_wp2_with fail
    refine (add_can ne nf le lf (by omega)).mono ?_; rintro e w8 ⟨vsum, rfl, csum, hb⟩
    replace na := na.below hb
    replace nb := nb.below hb
    replace ne := ne.below hb
    replace nf := nf.below hb
    replace nm := nm.below hb
    replace cx := cx.below hb
    replace hB := hB.trans (hb.mono hB.size)
    clear hb
    obtain ⟨q1, hq1⟩ : ∃ q, q = nl (f) := ⟨_, rfl⟩
    have hd1 : decide ((128 : Int) < (q1 : Int)) = false := by have h := nl_big (f); rw [Xf.out, ← hq1] at h; have := of_decide_eq_false h; exact decide_eq_false (by omega)
    have HQ1 := Lib.hid hq1
    clear hq1
    go_wp2_with fail
    refine (limbs_v nf).mono ?_; rintro e w' ⟨rfl, rfl⟩
    rw [← HQ1.out]
    obtain ⟨q2, hq2⟩ : ∃ q, q = nl (e + f) := ⟨_, rfl⟩
    have hd2 : decide ((128 : Int) < (q2 : Int)) = false := by have h := nl_big (e + f); rw [Xs.out, ← hq2] at h; have := of_decide_eq_false h; exact decide_eq_false (by omega)
    have HQ2 := Lib.hid hq2
    clear hq2
    go_wp2_with fail
    refine (limbs_v csum.num).mono ?_; rintro e w' ⟨rfl, rfl⟩
    rw [← HQ2.out]
    obtain ⟨q3, hq3⟩ : ∃ q, q = nl (b) := ⟨_, rfl⟩
    have hd3 : decide ((128 : Int) < (q3 : Int)) = false := by have h := nl_big (b); rw [Xb.out, ← hq3] at h; have := of_decide_eq_false h; exact decide_eq_false (by omega)
    have HQ3 := Lib.hid hq3
    clear hq3
    go_wp2_with fail
    refine (limbs_v nb).mono ?_; rintro e w' ⟨rfl, rfl⟩
    rw [← HQ3.out]
    have okn : ∀ x y, bigB x = false → bigB y = false → Ok3 x y m := fun x y hx hy => ⟨hx, hy, OK.out.pm, OK.out.two⟩
    have OKN := Lib.hid okn
    clear okn
    go_wp2_with fail
    refine (mExp_ok na nf nm (OKN.out _ _ OK.out.pa Xf.out)).mono ?_; rintro e w9 ⟨vy, rfl, cy, hb⟩
    replace na := na.below hb
    replace nb := nb.below hb
    replace ne := ne.below hb
    replace nf := nf.below hb
    replace nm := nm.below hb
    replace cx := cx.below hb
    replace csum := csum.below hb
    replace hB := hB.trans (hb.mono hB.size)
    clear hb
    go_wp2_with fail
    refine (mExp_ok na csum.num nm (OKN.out _ _ OK.out.pa Xs.out)).mono ?_; rintro e w10 ⟨vz2, rfl, cz2, hb⟩
    replace na := na.below hb
    replace nb := nb.below hb
    replace ne := ne.below hb
    replace nf := nf.below hb
    replace nm := nm.below hb
    replace cx := cx.below hb
    replace csum := csum.below hb
    replace cy := cy.below hb
    replace hB := hB.trans (hb.mono hB.size)
    clear hb
    go_wp2_with fail
    refine (mMul_ok cx.num cy.num nm (OKN.out _ _ (OK.out.rest _) (OK.out.rest _))).mono ?_; rintro e w11 ⟨vp, rfl, cp, hb⟩
    replace na := na.below hb
    replace nb := nb.below hb
    replace ne := ne.below hb
    replace nf := nf.below hb
    replace nm := nm.below hb
    replace cx := cx.below hb
    replace csum := csum.below hb
    replace cy := cy.below hb
    replace cz2 := cz2.below hb
    replace hB := hB.trans (hb.mono hB.size)
    clear hb
    go_wp2_with fail
    refine (same_yes cz2 cp (exp_sum a e f m)).mono ?_; rintro e w12 ⟨rfl, hb⟩
    replace na := na.below hb.b
    replace nb := nb.below hb.b
    replace ne := ne.below hb.b
    replace nf := nf.below hb.b
    replace nm := nm.below hb.b
    replace cx := cx.below hb.b
    replace csum := csum.below hb.b
    replace cy := cy.below hb.b
    replace cz2 := cz2.below hb.b
    replace cp := cp.below hb.b
    replace hB := hB.trans (hb.b.mono hB.size)
    clear hb
    clear cz2
    clear cp
    clear cy
    clear csum
    go_wp2_with fail
    refine (mMul_ok na nb nm (OKN.out _ _ OK.out.pa Xb.out)).mono ?_; rintro e w13 ⟨vab, rfl, cab, hb⟩
    replace na := na.below hb
    replace nb := nb.below hb
    replace ne := ne.below hb
    replace nf := nf.below hb
    replace nm := nm.below hb
    replace cx := cx.below hb
    replace hB := hB.trans (hb.mono hB.size)
    clear hb
    go_wp2_with fail
    refine (mExp_ok nb ne nm (OKN.out _ _ Xb.out OK.out.pb)).mono ?_; rintro e w14 ⟨vw, rfl, cw, hb⟩
    replace na := na.below hb
    replace nb := nb.below hb
    replace ne := ne.below hb
    replace nf := nf.below hb
    replace nm := nm.below hb
    replace cx := cx.below hb
    replace cab := cab.below hb
    replace hB := hB.trans (hb.mono hB.size)
    clear hb
    go_wp2_with fail
    refine (mExp_ok cab.num ne nm (OKN.out _ _ (OK.out.rest _) OK.out.pb)).mono ?_; rintro e w15 ⟨vl, rfl, cl, hb⟩
    replace na := na.below hb
    replace nb := nb.below hb
    replace ne := ne.below hb
    replace nf := nf.below hb
    replace nm := nm.below hb
    replace cx := cx.below hb
    replace cab := cab.below hb
    replace cw := cw.below hb
    replace hB := hB.trans (hb.mono hB.size)
    clear hb
    go_wp2_with fail
    refine (mMul_ok cx.num cw.num nm (OKN.out _ _ (OK.out.rest _) (OK.out.rest _))).mono ?_; rintro e w16 ⟨vr, rfl, cr, hb⟩
    replace na := na.below hb
    replace nb := nb.below hb
    replace ne := ne.below hb
    replace nf := nf.below hb
    replace nm := nm.below hb
    replace cx := cx.below hb
    replace cab := cab.below hb
    replace cw := cw.below hb
    replace cl := cl.below hb
    replace hB := hB.trans (hb.mono hB.size)
    clear hb
    go_wp2_with fail
    refine (same_yes cl cr (exp_prod a b e m)).mono ?_; rintro e w17 ⟨rfl, hb⟩
    replace na := na.below hb.b
    replace nb := nb.below hb.b
    replace ne := ne.below hb.b
    replace nf := nf.below hb.b
    replace nm := nm.below hb.b
    replace cx := cx.below hb.b
    replace cab := cab.below hb.b
    replace cw := cw.below hb.b
    replace cl := cl.below hb.b
    replace cr := cr.below hb.b
    replace hB := hB.trans (hb.b.mono hB.size)
    clear hb
    go_wp2_with fail
    go_ret
    exact ⟨rfl, hB⟩

set_option maxHeartbeats 16000000 in
set_option maxRecDepth 100000 in
theorem ModnExp_v {va vb ve vf vm : Value} {a b e f m : Nat} {w : World} (na : NumAt w va a) (nb : NumAt w vb b) (ne : NumAt w ve e) (nf : NumAt w vf f) (nm : NumAt w vm m) (la : Lim 1048576 a) (lb : Lim 1048576 b) (le : Lim 1048576 e) (lf : Lim 1048576 f) (lm : Lim 1048576 m) :
    Calls Try.prog 13 #[va, vb, ve, vf, vm] w (TruePost w) := by
  cases hh : hugeB m e f
  · by_cases h : wrongN [a, e, m] = 0
    · cases xf : bigB f
      · cases xs : bigB (e + f)
        · cases xb : bigB b
          · exact ModnExp_all na nb ne nf nm la lb le lf lm hh (.of h) xf xs xb
          · exact ModnExp_b na nb ne nf nm la lb le lf lm hh (.of h) xf xs xb
        · exact ModnExp_s na nb ne nf nm la lb le lf lm hh (.of h) xf xs
      · exact ModnExp_f na nb ne nf nm la lb le lf lm hh (.of h) xf
    · exact ModnExp_no na nb ne nf nm la lb le lf lm hh rfl h
  · exact ModnExp_t na nb ne nf nm la lb le lf lm hh

theorem ModnExp_c (aa : Option Addr) (pa : Nat) (za : List Int) (ab : Option Addr) (pb : Nat) (zb : List Int) (ae : Option Addr) (pe : Nat) (ze : List Int) (af : Option Addr) (pf : Nat) (zf : List Int) (am : Option Addr) (pm : Nat) (zm : List Int) (w : World) (sa : Sl .u32 w aa pa za) (ua : U32 za) (sb : Sl .u32 w ab pb zb) (ub : U32 zb) (se : Sl .u32 w ae pe ze) (ue : U32 ze) (sf : Sl .u32 w af pf zf) (uf : U32 zf) (sm : Sl .u32 w am pm zm) (um : U32 zm) (hz : za.length + zb.length + ze.length + zf.length + zm.length ≤ 1048576) :
    Calls Try.prog 13 #[.slice aa za.length pa, .slice ab zb.length pb, .slice ae ze.length pe, .slice af zf.length pf, .slice am zm.length pm] w (TruePost w) :=
  ModnExp_v (NumAt.of sa ua (by omega)) (NumAt.of sb ub (by omega)) (NumAt.of se ue (by omega)) (NumAt.of sf uf (by omega)) (NumAt.of sm um (by omega)) (Lim.of_list ua (by omega)) (Lim.of_list ub (by omega)) (Lim.of_list ue (by omega)) (Lim.of_list uf (by omega)) (Lim.of_list um (by omega))
end Go.Proofs.Ytadldaidbcdaeaa
