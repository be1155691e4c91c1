/- signetlaw7.ModnDefined, its walk. (Printed by gen_modnlaws.py.) -/
import Derived.Test.YtadldaidbcdaeaaLawSevenB
set_option linter.unusedVariables false
set_option linter.unusedSimpArgs false
namespace Go.Sg
theorem subM_back {a b m : Nat} (h : 0 < m) : (subM (a % m) (b % m) m + b) % m = a % m := by
  have hb := Nat.mod_lt b h
  have h1 := (subM_cg (a := a % m) hb).add (Cg.refl m (b : Int))
  have h2 : Cg m (((a % m : Nat) : Int) - ((b % m : Nat) : Int) + b) (a : Int) := by
    have h3 := ((Cg.mod m a).sub (Cg.mod m b)).add (Cg.refl m (b : Int))
    have e : (a : Int) - b + b = a := by omega
    rwa [e] at h3
  have h4 := h1.trans h2
  rw [← Int.natCast_add] at h4
  exact h4.eq
end Go.Sg
namespace Go.Proofs.Ytadldaidbcdaeaa
open Go.RowKit Go.Sg


set_option maxHeartbeats 16000000 in
set_option maxRecDepth 100000 in
theorem ModnDefined_no {va vb vm : Value} {a b m : Nat} {w : World} (na : NumAt w va a) (nb : NumAt w vb b) (nm : NumAt w vm m) (la : Lim 1048576 a) (lb : Lim 1048576 b) (lm : Lim 1048576 m) {code : Int} (ec : wrongN [a, b, m] = code) (no : code ≠ 0) :
    Calls Try.prog 14 #[va, vb, vm] w (TruePost w) := by
  have g1 : (code != code) = false := by simp
  have g2 : (code != 0) = true := by simpa using no
  have EC := Lib.hid ec
  have NO := Lib.hid no
  clear ec no
  go_enter Try.func14, Try.ntmps14
  have hB := Below.refl w.heap.size w
  go_wp2_with fail
  refine (awake_v _).mono ?_; rintro e w1 ⟨rfl, hb⟩
  replace na := na.below hb
  replace nb := nb.below hb
  replace nm := nm.below hb
  replace hB := hB.trans (hb.mono hB.size)
  clear hb
  go_wp2_with fail
  refine (mAdd_no na nb nm EC.out NO.out).mono ?_; rintro e w2 ⟨rfl, hb⟩
  replace na := na.below hb
  replace nb := nb.below hb
  replace nm := nm.below hb
  replace hB := hB.trans (hb.mono hB.size)
  clear hb
  go_wp2_with fail
  refine (mSub_no na nb nm EC.out NO.out).mono ?_; rintro e w3 ⟨rfl, hb⟩
  replace na := na.below hb
  replace nb := nb.below hb
  replace nm := nm.below hb
  replace hB := hB.trans (hb.mono hB.size)
  clear hb
  go_wp2_with fail
  refine (mMul_no na nb nm EC.out NO.out).mono ?_; rintro e w4 ⟨rfl, hb⟩
  replace na := na.below hb
  replace nb := nb.below hb
  replace nm := nm.below hb
  replace hB := hB.trans (hb.mono hB.size)
  clear hb
  go_wp2_with fail
  refine (refuses_v na nb nm).mono ?_; rintro e w' ⟨rfl, rfl⟩
  rw [EC.out]
  go_wp2_with fail
  go_ret
  exact ⟨rfl, hB⟩

set_option maxHeartbeats 16000000 in
set_option maxRecDepth 100000 in
theorem ModnDefined_ok {va vb vm : Value} {a b m : Nat} {w : World} (na : NumAt w va a) (nb : NumAt w vb b) (nm : NumAt w vm m) (la : Lim 1048576 a) (lb : Lim 1048576 b) (lm : Lim 1048576 m) (ok : Ok3 a b m) :
    Calls Try.prog 14 #[va, vb, vm] w (TruePost w) := by
  have la' := bigB_lim ok.pa
  have lb' := bigB_lim ok.pb
  have OK := Lib.hid ok
  have m0 : Hid (0 < m) := Lib.hid (by have := ok.two; omega)
  clear ok
  go_enter Try.func14, Try.ntmps14
  have hB := Below.refl w.heap.size w
  go_wp2_with fail
  refine (awake_v _).mono ?_; rintro e w1 ⟨rfl, hb⟩
  replace na := na.below hb
  replace nb := nb.below hb
  replace nm := nm.below hb
  replace hB := hB.trans (hb.mono hB.size)
  clear hb
  go_wp2_with fail
  refine (mAdd_ok na nb nm OK.out).mono ?_; rintro e w2 ⟨vs, rfl, cs, hb⟩
  replace na := na.below hb
  replace nb := nb.below hb
  replace nm := nm.below hb
  replace hB := hB.trans (hb.mono hB.size)
  clear hb
  go_wp2_with fail
  refine (mSub_ok na nb nm OK.out).mono ?_; rintro e w3 ⟨vd, rfl, cd, hb⟩
  replace na := na.below hb
  replace nb := nb.below hb
  replace nm := nm.below hb
  replace cs := cs.below hb
  replace hB := hB.trans (hb.mono hB.size)
  clear hb
  go_wp2_with fail
  refine (mMul_ok na nb nm OK.out).mono ?_; rintro e w4 ⟨vp, rfl, cp, hb⟩
  replace na := na.below hb
  replace nb := nb.below hb
  replace nm := nm.below hb
  replace cs := cs.below hb
  replace cd := cd.below hb
  replace hB := hB.trans (hb.mono hB.size)
  clear hb
  go_wp2_with fail
  refine (refuses_v na nb nm).mono ?_; rintro e w' ⟨rfl, rfl⟩
  rw [OK.out.code]
  obtain ⟨dn, hdn⟩ : ∃ n, n = subM (a % m) (b % m) m := ⟨_, rfl⟩
  rw [← hdn] at cd
  have dlt : dn < m := by rw [hdn]; exact subM_lt (Nat.mod_lt _ m0.out) (Nat.mod_lt _ m0.out)
  have back : Hid ((dn + b) % m = a % m) := Lib.hid (by rw [hdn]; exact subM_back m0.out)
  have DLT := Lib.hid dlt
  have ld := OK.out.lim.of_lt dlt
  clear hdn dlt
  obtain ⟨add, ppd, rfl⟩ := cd.len
  obtain ⟨q, hq⟩ : ∃ q, q = nl dn := ⟨_, rfl⟩
  rw [← hq] at cd ⊢
  have HQ := Lib.hid hq
  clear hq
  have g3 : ((q : Int) != q) = false := by simp
  go_wp2_with fail
  refine (add_can na nb la' lb' (by omega)).mono ?_; rintro e w5 ⟨vt, rfl, ct, hb⟩
  replace na := na.below hb
  replace nb := nb.below hb
  replace nm := nm.below hb
  replace cs := cs.below hb
  replace cd := cd.below hb
  replace cp := cp.below hb
  replace hB := hB.trans (hb.mono hB.size)
  clear hb
  go_wp2_with fail
  refine (is_yes cs ct.num nm m0.out rfl).mono ?_; rintro e w6 ⟨rfl, hb⟩
  replace na := na.below hb
  replace nb := nb.below hb
  replace nm := nm.below hb
  replace cs := cs.below hb
  replace cd := cd.below hb
  replace cp := cp.below hb
  replace ct := ct.below hb
  replace hB := hB.trans (hb.mono hB.size)
  clear hb
  clear ct
  clear cs
  go_wp2_with fail
  refine (mul_can na nb la' lb' (by omega)).mono ?_; rintro e w7 ⟨vt, rfl, ct, hb⟩
  replace na := na.below hb
  replace nb := nb.below hb
  replace nm := nm.below hb
  replace cd := cd.below hb
  replace cp := cp.below hb
  replace hB := hB.trans (hb.mono hB.size)
  clear hb
  go_wp2_with fail
  refine (is_yes cp ct.num nm m0.out rfl).mono ?_; rintro e w8 ⟨rfl, hb⟩
  replace na := na.below hb
  replace nb := nb.below hb
  replace nm := nm.below hb
  replace cd := cd.below hb
  replace cp := cp.below hb
  replace ct := ct.below hb
  replace hB := hB.trans (hb.mono hB.size)
  clear hb
  clear ct
  clear cp
  go_wp2_with fail
  refine (cmp_v cd.num nm).mono ?_; rintro e w9 ⟨rfl, hb⟩
  replace na := na.below hb.b
  replace nb := nb.below hb.b
  replace nm := nm.below hb.b
  replace cd := cd.below hb.b
  replace hB := hB.trans (hb.b.mono hB.size)
  clear hb
  rw [cmpI_lt DLT.out]
  go_wp2_with fail
  refine (limbs_v cd.num).mono ?_; rintro e w' ⟨rfl, rfl⟩
  rw [← HQ.out]
  go_wp2_with fail
  refine (add_can cd.num nb ld lb' (by omega)).mono ?_; rintro e w10 ⟨vt, rfl, ct, hb⟩
  replace na := na.below hb
  replace nb := nb.below hb
  replace nm := nm.below hb
  replace cd := cd.below hb
  replace hB := hB.trans (hb.mono hB.size)
  clear hb
  go_wp2_with fail
  refine (div_ok ct.num nm m0.out).mono ?_; rintro e w11 ⟨vx, vy, rfl, cx, cy, hb⟩
  replace na := na.below hb
  replace nb := nb.below hb
  replace nm := nm.below hb
  replace cd := cd.below hb
  replace ct := ct.below hb
  replace hB := hB.trans (hb.mono hB.size)
  clear hb
  clear cx
  go_wp2_with fail
  refine (div_ok na nm m0.out).mono ?_; rintro e w12 ⟨vx, vz, rfl, cx, cz, hb⟩
  replace na := na.below hb
  replace nb := nb.below hb
  replace nm := nm.below hb
  replace cd := cd.below hb
  replace ct := ct.below hb
  replace cy := cy.below hb
  replace hB := hB.trans (hb.mono hB.size)
  clear hb
  clear cx
  go_wp2_with fail
  refine (same_yes cy cz back.out).mono ?_; rintro e w13 ⟨rfl, hb⟩
  replace na := na.below hb.b
  replace nb := nb.below hb.b
  replace nm := nm.below hb.b
  replace cd := cd.below hb.b
  replace ct := ct.below hb.b
  replace cy := cy.below hb.b
  replace cz := cz.below hb.b
  replace hB := hB.trans (hb.b.mono hB.size)
  clear hb
  go_wp2_with fail
  go_ret
  exact ⟨rfl, hB⟩

set_option maxHeartbeats 16000000 in
set_option maxRecDepth 100000 in
theorem ModnDefined_v {va vb vm : Value} {a b m : Nat} {w : World} (na : NumAt w va a) (nb : NumAt w vb b) (nm : NumAt w vm m) (la : Lim 1048576 a) (lb : Lim 1048576 b) (lm : Lim 1048576 m) :
    Calls Try.prog 14 #[va, vb, vm] w (TruePost w) := by
  by_cases h : wrongN [a, b, m] = 0
  · exact ModnDefined_ok na nb nm la lb lm (.of h)
  · exact ModnDefined_no na nb nm la lb lm rfl h

theorem ModnDefined_c (aa : Option Addr) (pa : Nat) (za : List Int) (ab : Option Addr) (pb : Nat) (zb : List Int) (am : Option Addr) (pm : Nat) (zm : List Int) (w : World) (sa : Sl .u32 w aa pa za) (ua : U32 za) (sb : Sl .u32 w ab pb zb) (ub : U32 zb) (sm : Sl .u32 w am pm zm) (um : U32 zm) (hz : za.length + zb.length + zm.length ≤ 1048576) :
    Calls Try.prog 14 #[.slice aa za.length pa, .slice ab zb.length pb, .slice am zm.length pm] w (TruePost w) :=
  ModnDefined_v (NumAt.of sa ua (by omega)) (NumAt.of sb ub (by omega)) (NumAt.of sm um (by omega)) (Lim.of_list ua (by omega)) (Lim.of_list ub (by omega)) (Lim.of_list um (by omega))
end Go.Proofs.Ytadldaidbcdaeaa
