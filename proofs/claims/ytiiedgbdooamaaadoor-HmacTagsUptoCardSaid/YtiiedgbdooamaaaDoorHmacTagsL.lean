/- signetlaw5.HmacTags, its walk. (Printed by gen_hmactags.py.) -/
import Derived.Test.YtiiedgbdooamaaaDoorHmacIsL
import Derived.Test.YtiiedgbdooamaaaDoorShaK
import Derived.Test.YtiiedgbdooamaaaDoorAppK
set_option linter.unusedVariables false
set_option linter.unusedSimpArgs false
namespace Go.Sg
open Go.RowKit
theorem cut_h0 {P : Program} (w : World) (T E : TypeId) (hu : P.underlying T = some (.slice E)) (hs : (P.info? E).map (·.size) = some 1) (a : Option Addr) (n cap h : Nat) (h1 : h ≤ cap) :
    (Instr.sliceAt T (.slice a n cap) none (some (.int .i64 (h : Int))) none).run P w = .ok (.slice a h cap) w := by
  rw [cut_h w T E hu hs a n cap h h1 (h : Int) rfl]
  congr 2
  split
  · rfl
  · cases a with
    | none => rfl
    | some ad =>
      obtain ⟨b, off, sp⟩ := ad
      cases sp <;> simp [Addr.add]
theorem tmod_rng (n z : Int) (hz : 0 < z) : -z < n.tmod z ∧ n.tmod z < z := by
  have h1 := Int.natAbs_tmod n z
  have h2 : (n.tmod z).natAbs < z.natAbs := by rw [h1]; exact Nat.mod_lt _ (by omega)
  omega
end Go.Sg
namespace Go.Proofs.YtiiedgbdooamaaaDoor
open Go.RowKit Go.Sg

set_option maxHeartbeats 8000000 in
set_option maxRecDepth 20000 in
theorem HmacTags_c (h pl y n : Int) (a a' : Option Addr) (cap cap' : Nat) (k d : List Int) (w : World) (hpl : -9223372036854775808 ≤ pl ∧ pl ≤ 9223372036854775807) (hy0 : 0 ≤ y ∧ y ≤ 255) (hn : -9223372036854775808 ≤ n ∧ n ≤ 9223372036854775807) (hx : Sl .u8 w a cap k) (ux : U8 k) (hy : Sl .u8 w a' cap' d) (uy : U8 d) (hz : k.length + d.length ≤ 1048576) (ht : ShaTabs w) :
    Calls Tryd.prog 12 #[.int .i64 h, .slice a k.length cap, .slice a' d.length cap', .int .i64 pl, .int .u8 y, .int .i64 n] w (TruePost w) := by
  go_enter Tryd.func12, Tryd.ntmps12
  have hB := Below.refl w.heap.size w
  go_wp2_with fail
  refine (started_c _ ht).mono ?_; rintro e w1 ⟨rfl, hb⟩
  replace hx := hx.below hb
  replace hy := hy.below hb
  replace ht := ht.below hb
  replace hB := hB.trans (hb.mono hB.size)
  clear hb
  go_wp2_with fail
  refine (Hmac_c h a a' cap cap' k d _ hx hy ux uy (by omega) (by omega) ht).mono ?_; rintro e w2 ⟨vT, rfl, nT, hb⟩
  replace hx := hx.below hb
  replace hy := hy.below hb
  replace ht := ht.below hb
  replace hB := hB.trans (hb.mono hB.size)
  clear hb
  obtain ⟨aT, cT, rfl, sT⟩ := nT.sl
  clear nT
  obtain ⟨zT, hT⟩ : ∃ z, z = hmac h k d := ⟨_, rfl⟩
  rw [← hT] at sT ⊢
  have uT : U8 zT := by rw [hT]; exact hmac_u8 _ _ _
  have eT := Lib.hid hT
  clear hT
  go_wp2_with fail
  refine (block5_c h _).mono ?_; rintro e w' ⟨rfl, rfl⟩
  by_cases hh : IsHash h
  · have hsb := hh.size_le
    have g0 : ((shaBlock h : Int) == 0) = false := beq_false_of_ne (by omega)
    obtain ⟨Z, hZ⟩ : ∃ Z, Z = zT.length := ⟨_, rfl⟩
    have hZ1 : Z = shaSize h := by rw [hZ, eT.out, hmac_len hh]
    have z0 : 0 < Z := by omega
    have z1 : Z ≤ 64 := by omega
    have ck := fun W b c (zs : List Int) (sx : Sl .u8 W a cap k) (sy : Sl .u8 W a' cap' d) (sz : Sl .u8 W b c zs) (uz : U8 zs) (t : ShaTabs W) => Check_c h a a' b cap cap' c k d zs W sx sy sz ux uy uz (by omega) (by omega) t
    rw [← eT.out] at ck
    have e0 : ((Z : Int) == 0) = false := beq_false_of_ne (by omega)
    rw [← hZ]
    have HZ := Lib.hid hZ
    have hcut := fun W (M : Nat) (hM : M ≤ cT) => cut_h0 (P := Tryd.prog) W 29 5 Tryd.underlying29 size8 aT Z cT M hM
    have ZC : Z ≤ cT := by have := sT.le; omega
    clear hZ hZ1
    have ck1 := fun W (sx : Sl .u8 W a cap k) (sy : Sl .u8 W a' cap' d) (sz : Sl .u8 W aT cT zT) (t : ShaTabs W) => ck W aT cT zT sx sy sz uT t
    rw [show decide (IsHash h ∧ zT = zT) = true from decide_eq_true ⟨hh, rfl⟩, ← HZ.out] at ck1
    go_wp2_with fail
    refine (ck1 _ hx hy sT ht).mono ?_; rintro e w3 ⟨rfl, hb⟩
    replace hx := hx.below hb
    replace hy := hy.below hb
    replace ht := ht.below hb
    replace sT := sT.below hb
    replace hB := hB.trans (hb.mono hB.size)
    clear hb
    have rr := tmod_rng n (Z : Int) (by omega)
    have rp := tmod_rng pl (Z : Int) (by omega)
    have zn0 : ((Z : Int) == 0) = false := e0
    obtain ⟨R, hR⟩ : ∃ R, R = n.tmod (Z : Int) := ⟨_, rfl⟩
    rw [← hR] at rr
    by_cases q1 : R < 0
    · obtain ⟨M, hM⟩ : ∃ M : Nat, R + (Z : Int) = (M : Int) := ⟨(R + Z).toNat, by omega⟩
      have hM1 : M < Z := by omega
      have hrem : n.tmod (Z : Int) = R := hR.symm
      have d5 : decide (R < 0) = true := decide_eq_true q1
      clear hR q1 rr
      obtain ⟨zM, hzM⟩ : ∃ z, z = zT.take M := ⟨_, rfl⟩
      have lM : Hid (zM.length = M) := Lib.hid (by rw [hzM, List.length_take, ← HZ.out]; omega)
      have nM : Hid (zT ≠ zM) := Lib.hid fun e => by
        have := lM.out
        rw [← e, ← HZ.out] at this
        omega
      have uM : U8 zM := by rw [hzM]; exact uT.take (by omega) _
      have HzM := Lib.hid hzM
      clear hzM
      have cM := fun W => hcut W M (by omega)
      have sM := sT.take M
      rw [← HzM.out] at sM
      have c1 := ck _ aT cT zM hx hy sM uM ht
      rw [show decide (IsHash h ∧ zT = zM) = false from decide_eq_false fun e => nM.out e.2, lM.out] at c1
      go_wp2_with fail
      refine (c1).mono ?_; rintro e w4 ⟨rfl, hb⟩
      replace hx := hx.below hb
      replace hy := hy.below hb
      replace ht := ht.below hb
      replace sT := sT.below hb
      replace sM := sM.below hb
      replace hB := hB.trans (hb.mono hB.size)
      clear hb
      have c2 := Equal_c aT aT cT cT zT zM _ sT sM uT uM
      rw [show decide (zT = zM) = false from decide_eq_false nM.out, lM.out, ← HZ.out] at c2
      go_wp2_with fail
      refine (c2).mono ?_; rintro e w5 ⟨rfl, hb⟩
      replace hx := hx.below hb
      replace hy := hy.below hb
      replace ht := ht.below hb
      replace sT := sT.below hb
      replace sM := sM.below hb
      replace hB := hB.trans (hb.mono hB.size)
      clear hb
      have c3 := Equal_c aT aT cT cT zM zT _ sM sT uM uT
      rw [show decide (zM = zT) = false from decide_eq_false fun e => nM.out e.symm, lM.out, ← HZ.out] at c3
      go_wp2_with fail
      refine (c3).mono ?_; rintro e w6 ⟨rfl, hb⟩
      replace hx := hx.below hb
      replace hy := hy.below hb
      replace ht := ht.below hb
      replace sT := sT.below hb
      replace sM := sM.below hb
      replace hB := hB.trans (hb.mono hB.size)
      clear hb
      clear sM
      clear c1 c2 c3 cM
      have nC0 : New w6.heap.size .u8 5 w6 (.slice none 0 0) (zT.take 0) := .nil _ _ _ _
      go_wp2_with fail
      go_loopw [15, 16] (fun v t wr => ∃ i : Nat, i ≤ Z ∧ t = .int .i64 (i : Int) ∧ New w6.heap.size .u8 5 wr v (zT.take i) ∧ Below w6.heap.size w6 wr)
        (fun _ t _ => Z - (intOf t).toNat)
      case atStart => exact ⟨0, by omega, rfl, nC0, .refl _ _⟩
      case round =>
        clear nC0
        obtain ⟨i, hi, rfl, hv, hb⟩ := hrel
        have hbs := hb.size
        obtain ⟨l, hl1⟩ : ∃ l, l = zT.take i := ⟨_, rfl⟩
        rw [← hl1] at hv
        have HL : Hid (l.length ≤ 64) := Lib.hid (by rw [hl1]; simp; omega)
        have HL1 := Lib.hid hl1
        clear hl1
        by_cases hlt : i < Z
        · have fin : Hid (l ++ [nth zT i] = zT.take (i + 1)) := Lib.hid (by rw [HL1.out]; exact (take_succ_nth _ _ (by rw [← HZ.out]; exact hlt)).symm)
          have hlp := (show i < zT.length by rw [← HZ.out]; exact hlt)
          obtain ⟨b, off, eaa, hc⟩ := (sT.below hb).cells (by omega)
          subst eaa
          have c0 := hc i hlp
          clear hc hlp
          have hd1 : decide ((i : Int) < (Z : Int)) = true := decide_eq_true (by omega)
          go_wp2_with (at_builtin; refine wpList_append_new _ rfl _ _ 29 rfl w6.heap.size 5 .u8 1 Tryd.underlying29 info8s _ _ rfl (hv.alloc _) _ _ 1 [nth zT i] rfl rfl (cells_one _ _ _ _ _ rfl) (by have := HL.out; simp; omega) (by have := HL.out; simp; omega) (by simp; omega) ?_)
          intro v' w' hv' hg' _
          have hlt1 := fun g hg => (hv.lt g hg).1
          have hb' : Below w6.heap.size w6 w' := (hb.alloc hbs _).grown hg' (by simp; omega) hlt1
          rw [fin.out] at hv'
          clear hv hg' hb
          go_wp2_with fail
          go_roundw
          case rel => exact ⟨i + 1, by omega, by go_num, hv', hb'⟩
          case measure => simp [intOf]; omega
        · obtain rfl : Z = i := by omega
          have hd1 : decide ((Z : Int) < (Z : Int)) = false := by simp
          obtain ⟨wo, hwo⟩ : ∃ wo : World, wo = wr := ⟨_, rfl⟩
          subst hwo
          have hlz : l = zT := by
            have := HL1.out
            rw [List.take_of_length_le (by rw [← HZ.out]; exact Nat.le_refl _)] at this
            exact this
          subst hlz
          have HLZ : Hid (l.length ≤ 64) := Lib.hid (by rw [← HZ.out]; exact z1)
          clear HL HL1
          go_wp2_with (at_builtin; refine wpList_append_keep _ rfl _ _ 29 rfl w6.heap.size 5 .u8 1 Tryd.underlying29 info8s _ _ rfl (hv.alloc _) _ _ 1 [y] rfl rfl (cells_one _ _ _ _ _ rfl) (by have := HLZ.out; simp; omega) (by have := HLZ.out; simp; omega) (by simp; omega) ?_)
          intro vL wL hvL hvU hgL _
          have hlt1 := fun g hg => (hv.lt g hg).1
          have hbL : Below w6.heap.size w6 wL := (hb.alloc hbs _).grown hgL (by simp; omega) hlt1
          obtain ⟨gU, cU, rfl, hgU, pU⟩ := hvU.pre (by rw [← HZ.out]; exact z0)
          obtain ⟨aL, cL, rfl, sL⟩ := hvL.sl
          obtain ⟨zL, hzL⟩ : ∃ z, z = l ++ [y] := ⟨_, rfl⟩
          rw [← hzL] at sL ⊢
          have uL : U8 zL := by rw [hzL]; exact uT.append (by omega) (.one hy0.1 hy0.2)
          have nL : l ≠ zL := fun e => by
            have := congrArg List.length (e.trans hzL)
            simp at this
          have c4 := ck wL aL cL zL (hx.below hbL) (hy.below hbL) sL uL (ht.below hbL)
          rw [show decide (IsHash h ∧ l = zL) = false from decide_eq_false fun e => nL e.2] at c4
          rw [← HZ.out]
          clear hzL nL hvL hvU hgL hv hb hbs hlt1 hd1 hlt hi
          go_wp2_with fail
          refine c4.mono ?_; rintro e wc ⟨rfl, hb4⟩
          have hbc : Below w6.heap.size w6 wc := hbL.trans (hb4.mono hbL.size)
          have pC := pU.keep hb4
          clear c4 pU hb4 hbL sL
          obtain ⟨RP, hRP⟩ : ∃ R, R = pl.tmod (Z : Int) := ⟨_, rfl⟩
          rw [← hRP] at rp
          by_cases q2 : RP < 0
          · obtain ⟨Q, hQ⟩ : ∃ Q : Nat, RP + (Z : Int) = (Q : Int) := ⟨(RP + Z).toNat, by omega⟩
            have hQ1 : Q < Z := by omega
            have d6 : decide (RP < 0) = true := decide_eq_true q2
            have HQ := Lib.hid hQ
            have ct := pC.cell Q (by rw [← HZ.out]; exact hQ1)
            have cf := pC.free Q
            obtain ⟨x, hx1⟩ : ∃ x, x = nth l Q := ⟨_, rfl⟩
            rw [← hx1] at ct
            have bxe : bits .xor .u8 x y = bx x y := rfl
            have pS := pC.set Q (bx x y)
            have uS : U8 (l.set Q (bx x y)) := InR.set uT Q (bx_rng _ _).1 (bx_rng _ _).2
            have iff1 : l = l.set Q (bx x y) ↔ y = 0 := by
              rw [← bx_self_iff (by rw [hx1]; exact uT Q) hy0 (x := x)]
              constructor
              · intro e
                have := congrArg (fun z => nth z Q) e
                simp only [nth_set _ _ _ _ (show Q < l.length by rw [← HZ.out]; exact hQ1), if_true] at this
                rw [← hx1] at this
                exact this.symm
              · intro e
                rw [e, hx1]
                exact ext_nth _ _ (by simp) fun j hj => by
                  by_cases hjq : Q = j
                  · subst hjq; rw [nth_set _ _ _ _ hj, if_pos rfl]
                  · by_cases hql : Q < l.length
                    · rw [nth_set _ _ _ _ hql, if_neg hjq]
                    · rw [List.set_eq_of_length_le (by omega)]
            have hbS := hbc.setCell (p := ⟨gU, Q, none⟩) hgU (.int .u8 (bx x y))
            obtain ⟨zS, hzS⟩ : ∃ z, z = l.set Q (bx x y) := ⟨_, rfl⟩
            rw [← hzS] at pS uS iff1
            have HzS : Hid (zS.length = Z) := Lib.hid (by rw [hzS, List.length_set, ← HZ.out])
            obtain ⟨bz, hbz⟩ : ∃ bz, bz = (y == 0) := ⟨_, rfl⟩
            have D1 : Hid (decide (IsHash h ∧ l = zS) = bz) := Lib.hid (by
              rw [hbz]
              by_cases y0 : y = 0
              · rw [decide_eq_true ⟨hh, iff1.2 y0⟩]; simp [y0]
              · rw [decide_eq_false fun e => y0 (iff1.1 e.2)]; simp [y0])
            have D2 : Hid (decide (l = zS) = bz) := Lib.hid (by
              rw [hbz]
              by_cases y0 : y = 0
              · rw [decide_eq_true (iff1.2 y0)]; simp [y0]
              · rw [decide_eq_false fun e => y0 (iff1.1 e)]; simp [y0])
            have D3 : Hid (decide (zS = l) = bz) := Lib.hid (by
              rw [← D2.out]
              exact decide_eq_decide.2 ⟨Eq.symm, Eq.symm⟩)
            have sS := pS.sl
            have c5 := fun W (hb : Below w6.heap.size w6 W) (s : Sl .u8 W (some ⟨gU, 0, none⟩) cU zS) => ck W _ cU zS (hx.below hb) (hy.below hb) s uS (ht.below hb)
            rw [D1.out, HzS.out] at c5
            have c6 := fun W (hb : Below w6.heap.size w6 W) (s : Sl .u8 W (some ⟨gU, 0, none⟩) cU zS) => Equal_c _ _ _ _ _ _ W (sT.below hb) s uT uS
            rw [D2.out, HzS.out, ← HZ.out] at c6
            have c7 := fun W (hb : Below w6.heap.size w6 W) (s : Sl .u8 W (some ⟨gU, 0, none⟩) cU zS) => Equal_c _ _ _ _ _ _ W s (sT.below hb) uS uT
            rw [D3.out, HzS.out, ← HZ.out] at c7
            have hyz : (y == 0) = bz := hbz.symm
            have hQi : (Q : Int) < (Z : Int) := by omega
            have HR2 := Lib.hid hRP
            have hrem : pl.tmod (Z : Int) = RP := hRP.symm
            have hadd : RP + (Z : Int) = (Q : Int) := hQ
            clear hQ
            clear hzS iff1 hx1 hbz pC hbc pS hRP q2 rp
            go_wp2_with fail
            refine (c5 _ hbS sS).mono ?_; rintro e wd ⟨rfl, hb5⟩
            have sS1 := sS.below (w' := wd) (hb5)
            have hbd := hbS.trans (hb5.mono hbS.size)
            clear hb5 sS hbS c5
            go_wp2_with fail
            cases bz with
            | true =>
              go_wp2_with fail
              refine (c6 _ hbd sS1).mono ?_; rintro e we ⟨rfl, hb6⟩
              have sS2 := sS1.below hb6
              have hbe := hbd.trans (hb6.mono hbd.size)
              clear hb6
              go_wp2_with fail
              refine (c7 _ hbe sS2).mono ?_; rintro e wf ⟨rfl, hb7⟩
              have hbf := hbe.trans (hb7.mono hbe.size)
              have hB2 := hB.trans (hbf.mono hB.size)
              go_wp2_with fail
              go_ret
              exact ⟨rfl, hB2⟩
            | false =>
              go_wp2_with fail
              refine (c6 _ hbd sS1).mono ?_; rintro e we ⟨rfl, hb6⟩
              have sS2 := sS1.below hb6
              have hbe := hbd.trans (hb6.mono hbd.size)
              clear hb6
              go_wp2_with fail
              refine (c7 _ hbe sS2).mono ?_; rintro e wf ⟨rfl, hb7⟩
              have hbf := hbe.trans (hb7.mono hbe.size)
              have hB2 := hB.trans (hbf.mono hB.size)
              go_wp2_with fail
              go_ret
              exact ⟨rfl, hB2⟩
          · obtain ⟨Q, hQ⟩ : ∃ Q : Nat, RP = (Q : Int) := ⟨RP.toNat, by omega⟩
            have hQ1 : Q < Z := by omega
            have d6 : decide (RP < 0) = false := decide_eq_false q2
            have HQ := Lib.hid hQ
            have ct := pC.cell Q (by rw [← HZ.out]; exact hQ1)
            have cf := pC.free Q
            obtain ⟨x, hx1⟩ : ∃ x, x = nth l Q := ⟨_, rfl⟩
            rw [← hx1] at ct
            have bxe : bits .xor .u8 x y = bx x y := rfl
            have pS := pC.set Q (bx x y)
            have uS : U8 (l.set Q (bx x y)) := InR.set uT Q (bx_rng _ _).1 (bx_rng _ _).2
            have iff1 : l = l.set Q (bx x y) ↔ y = 0 := by
              rw [← bx_self_iff (by rw [hx1]; exact uT Q) hy0 (x := x)]
              constructor
              · intro e
                have := congrArg (fun z => nth z Q) e
                simp only [nth_set _ _ _ _ (show Q < l.length by rw [← HZ.out]; exact hQ1), if_true] at this
                rw [← hx1] at this
                exact this.symm
              · intro e
                rw [e, hx1]
                exact ext_nth _ _ (by simp) fun j hj => by
                  by_cases hjq : Q = j
                  · subst hjq; rw [nth_set _ _ _ _ hj, if_pos rfl]
                  · by_cases hql : Q < l.length
                    · rw [nth_set _ _ _ _ hql, if_neg hjq]
                    · rw [List.set_eq_of_length_le (by omega)]
            have hbS := hbc.setCell (p := ⟨gU, Q, none⟩) hgU (.int .u8 (bx x y))
            obtain ⟨zS, hzS⟩ : ∃ z, z = l.set Q (bx x y) := ⟨_, rfl⟩
            rw [← hzS] at pS uS iff1
            have HzS : Hid (zS.length = Z) := Lib.hid (by rw [hzS, List.length_set, ← HZ.out])
            obtain ⟨bz, hbz⟩ : ∃ bz, bz = (y == 0) := ⟨_, rfl⟩
            have D1 : Hid (decide (IsHash h ∧ l = zS) = bz) := Lib.hid (by
              rw [hbz]
              by_cases y0 : y = 0
              · rw [decide_eq_true ⟨hh, iff1.2 y0⟩]; simp [y0]
              · rw [decide_eq_false fun e => y0 (iff1.1 e.2)]; simp [y0])
            have D2 : Hid (decide (l = zS) = bz) := Lib.hid (by
              rw [hbz]
              by_cases y0 : y = 0
              · rw [decide_eq_true (iff1.2 y0)]; simp [y0]
              · rw [decide_eq_false fun e => y0 (iff1.1 e)]; simp [y0])
            have D3 : Hid (decide (zS = l) = bz) := Lib.hid (by
              rw [← D2.out]
              exact decide_eq_decide.2 ⟨Eq.symm, Eq.symm⟩)
            have sS := pS.sl
            have c5 := fun W (hb : Below w6.heap.size w6 W) (s : Sl .u8 W (some ⟨gU, 0, none⟩) cU zS) => ck W _ cU zS (hx.below hb) (hy.below hb) s uS (ht.below hb)
            rw [D1.out, HzS.out] at c5
            have c6 := fun W (hb : Below w6.heap.size w6 W) (s : Sl .u8 W (some ⟨gU, 0, none⟩) cU zS) => Equal_c _ _ _ _ _ _ W (sT.below hb) s uT uS
            rw [D2.out, HzS.out, ← HZ.out] at c6
            have c7 := fun W (hb : Below w6.heap.size w6 W) (s : Sl .u8 W (some ⟨gU, 0, none⟩) cU zS) => Equal_c _ _ _ _ _ _ W s (sT.below hb) uS uT
            rw [D3.out, HzS.out, ← HZ.out] at c7
            have hyz : (y == 0) = bz := hbz.symm
            have hQi : (Q : Int) < (Z : Int) := by omega
            have HR2 := Lib.hid hRP
            have hrem : pl.tmod (Z : Int) = RP := hRP.symm
            subst hQ
            clear d6
            have d6 : decide ((Q : Int) < 0) = false := decide_eq_false (by omega)
            clear hzS iff1 hx1 hbz pC hbc pS hRP q2 rp
            go_wp2_with fail
            refine (c5 _ hbS sS).mono ?_; rintro e wd ⟨rfl, hb5⟩
            have sS1 := sS.below (w' := wd) (hb5)
            have hbd := hbS.trans (hb5.mono hbS.size)
            clear hb5 sS hbS c5
            go_wp2_with fail
            cases bz with
            | true =>
              go_wp2_with fail
              refine (c6 _ hbd sS1).mono ?_; rintro e we ⟨rfl, hb6⟩
              have sS2 := sS1.below hb6
              have hbe := hbd.trans (hb6.mono hbd.size)
              clear hb6
              go_wp2_with fail
              refine (c7 _ hbe sS2).mono ?_; rintro e wf ⟨rfl, hb7⟩
              have hbf := hbe.trans (hb7.mono hbe.size)
              have hB2 := hB.trans (hbf.mono hB.size)
              go_wp2_with fail
              go_ret
              exact ⟨rfl, hB2⟩
            | false =>
              go_wp2_with fail
              refine (c6 _ hbd sS1).mono ?_; rintro e we ⟨rfl, hb6⟩
              have sS2 := sS1.below hb6
              have hbe := hbd.trans (hb6.mono hbd.size)
              clear hb6
              go_wp2_with fail
              refine (c7 _ hbe sS2).mono ?_; rintro e wf ⟨rfl, hb7⟩
              have hbf := hbe.trans (hb7.mono hbe.size)
              have hB2 := hB.trans (hbf.mono hB.size)
              go_wp2_with fail
              go_ret
              exact ⟨rfl, hB2⟩
    · obtain ⟨M, hM⟩ : ∃ M : Nat, R = (M : Int) := ⟨R.toNat, by omega⟩
      have hM1 : M < Z := by omega
      have hrem : n.tmod (Z : Int) = R := hR.symm
      have d5 : decide (R < 0) = false := decide_eq_false q1
      clear hR q1 rr
      subst hM
      obtain ⟨zM, hzM⟩ : ∃ z, z = zT.take M := ⟨_, rfl⟩
      have lM : Hid (zM.length = M) := Lib.hid (by rw [hzM, List.length_take, ← HZ.out]; omega)
      have nM : Hid (zT ≠ zM) := Lib.hid fun e => by
        have := lM.out
        rw [← e, ← HZ.out] at this
        omega
      have uM : U8 zM := by rw [hzM]; exact uT.take (by omega) _
      have HzM := Lib.hid hzM
      clear hzM
      have cM := fun W => hcut W M (by omega)
      have sM := sT.take M
      rw [← HzM.out] at sM
      have c1 := ck _ aT cT zM hx hy sM uM ht
      rw [show decide (IsHash h ∧ zT = zM) = false from decide_eq_false fun e => nM.out e.2, lM.out] at c1
      go_wp2_with fail
      refine (c1).mono ?_; rintro e w4 ⟨rfl, hb⟩
      replace hx := hx.below hb
      replace hy := hy.below hb
      replace ht := ht.below hb
      replace sT := sT.below hb
      replace sM := sM.below hb
      replace hB := hB.trans (hb.mono hB.size)
      clear hb
      have c2 := Equal_c aT aT cT cT zT zM _ sT sM uT uM
      rw [show decide (zT = zM) = false from decide_eq_false nM.out, lM.out, ← HZ.out] at c2
      go_wp2_with fail
      refine (c2).mono ?_; rintro e w5 ⟨rfl, hb⟩
      replace hx := hx.below hb
      replace hy := hy.below hb
      replace ht := ht.below hb
      replace sT := sT.below hb
      replace sM := sM.below hb
      replace hB := hB.trans (hb.mono hB.size)
      clear hb
      have c3 := Equal_c aT aT cT cT zM zT _ sM sT uM uT
      rw [show decide (zM = zT) = false from decide_eq_false fun e => nM.out e.symm, lM.out, ← HZ.out] at c3
      go_wp2_with fail
      refine (c3).mono ?_; rintro e w6 ⟨rfl, hb⟩
      replace hx := hx.below hb
      replace hy := hy.below hb
      replace ht := ht.below hb
      replace sT := sT.below hb
      replace sM := sM.below hb
      replace hB := hB.trans (hb.mono hB.size)
      clear hb
      clear sM
      clear c1 c2 c3 cM
      have nC0 : New w6.heap.size .u8 5 w6 (.slice none 0 0) (zT.take 0) := .nil _ _ _ _
      go_wp2_with fail
      go_loopw [15, 16] (fun v t wr => ∃ i : Nat, i ≤ Z ∧ t = .int .i64 (i : Int) ∧ New w6.heap.size .u8 5 wr v (zT.take i) ∧ Below w6.heap.size w6 wr)
        (fun _ t _ => Z - (intOf t).toNat)
      case atStart => exact ⟨0, by omega, rfl, nC0, .refl _ _⟩
      case round =>
        clear nC0
        obtain ⟨i, hi, rfl, hv, hb⟩ := hrel
        have hbs := hb.size
        obtain ⟨l, hl1⟩ : ∃ l, l = zT.take i := ⟨_, rfl⟩
        rw [← hl1] at hv
        have HL : Hid (l.length ≤ 64) := Lib.hid (by rw [hl1]; simp; omega)
        have HL1 := Lib.hid hl1
        clear hl1
        by_cases hlt : i < Z
        · have fin : Hid (l ++ [nth zT i] = zT.take (i + 1)) := Lib.hid (by rw [HL1.out]; exact (take_succ_nth _ _ (by rw [← HZ.out]; exact hlt)).symm)
          have hlp := (show i < zT.length by rw [← HZ.out]; exact hlt)
          obtain ⟨b, off, eaa, hc⟩ := (sT.below hb).cells (by omega)
          subst eaa
          have c0 := hc i hlp
          clear hc hlp
          have hd1 : decide ((i : Int) < (Z : Int)) = true := decide_eq_true (by omega)
          go_wp2_with (at_builtin; refine wpList_append_new _ rfl _ _ 29 rfl w6.heap.size 5 .u8 1 Tryd.underlying29 info8s _ _ rfl (hv.alloc _) _ _ 1 [nth zT i] rfl rfl (cells_one _ _ _ _ _ rfl) (by have := HL.out; simp; omega) (by have := HL.out; simp; omega) (by simp; omega) ?_)
          intro v' w' hv' hg' _
          have hlt1 := fun g hg => (hv.lt g hg).1
          have hb' : Below w6.heap.size w6 w' := (hb.alloc hbs _).grown hg' (by simp; omega) hlt1
          rw [fin.out] at hv'
          clear hv hg' hb
          go_wp2_with fail
          go_roundw
          case rel => exact ⟨i + 1, by omega, by go_num, hv', hb'⟩
          case measure => simp [intOf]; omega
        · obtain rfl : Z = i := by omega
          have hd1 : decide ((Z : Int) < (Z : Int)) = false := by simp
          obtain ⟨wo, hwo⟩ : ∃ wo : World, wo = wr := ⟨_, rfl⟩
          subst hwo
          have hlz : l = zT := by
            have := HL1.out
            rw [List.take_of_length_le (by rw [← HZ.out]; exact Nat.le_refl _)] at this
            exact this
          subst hlz
          have HLZ : Hid (l.length ≤ 64) := Lib.hid (by rw [← HZ.out]; exact z1)
          clear HL HL1
          go_wp2_with (at_builtin; refine wpList_append_keep _ rfl _ _ 29 rfl w6.heap.size 5 .u8 1 Tryd.underlying29 info8s _ _ rfl (hv.alloc _) _ _ 1 [y] rfl rfl (cells_one _ _ _ _ _ rfl) (by have := HLZ.out; simp; omega) (by have := HLZ.out; simp; omega) (by simp; omega) ?_)
          intro vL wL hvL hvU hgL _
          have hlt1 := fun g hg => (hv.lt g hg).1
          have hbL : Below w6.heap.size w6 wL := (hb.alloc hbs _).grown hgL (by simp; omega) hlt1
          obtain ⟨gU, cU, rfl, hgU, pU⟩ := hvU.pre (by rw [← HZ.out]; exact z0)
          obtain ⟨aL, cL, rfl, sL⟩ := hvL.sl
          obtain ⟨zL, hzL⟩ : ∃ z, z = l ++ [y] := ⟨_, rfl⟩
          rw [← hzL] at sL ⊢
          have uL : U8 zL := by rw [hzL]; exact uT.append (by omega) (.one hy0.1 hy0.2)
          have nL : l ≠ zL := fun e => by
            have := congrArg List.length (e.trans hzL)
            simp at this
          have c4 := ck wL aL cL zL (hx.below hbL) (hy.below hbL) sL uL (ht.below hbL)
          rw [show decide (IsHash h ∧ l = zL) = false from decide_eq_false fun e => nL e.2] at c4
          rw [← HZ.out]
          clear hzL nL hvL hvU hgL hv hb hbs hlt1 hd1 hlt hi
          go_wp2_with fail
          refine c4.mono ?_; rintro e wc ⟨rfl, hb4⟩
          have hbc : Below w6.heap.size w6 wc := hbL.trans (hb4.mono hbL.size)
          have pC := pU.keep hb4
          clear c4 pU hb4 hbL sL
          obtain ⟨RP, hRP⟩ : ∃ R, R = pl.tmod (Z : Int) := ⟨_, rfl⟩
          rw [← hRP] at rp
          by_cases q2 : RP < 0
          · obtain ⟨Q, hQ⟩ : ∃ Q : Nat, RP + (Z : Int) = (Q : Int) := ⟨(RP + Z).toNat, by omega⟩
            have hQ1 : Q < Z := by omega
            have d6 : decide (RP < 0) = true := decide_eq_true q2
            have HQ := Lib.hid hQ
            have ct := pC.cell Q (by rw [← HZ.out]; exact hQ1)
            have cf := pC.free Q
            obtain ⟨x, hx1⟩ : ∃ x, x = nth l Q := ⟨_, rfl⟩
            rw [← hx1] at ct
            have bxe : bits .xor .u8 x y = bx x y := rfl
            have pS := pC.set Q (bx x y)
            have uS : U8 (l.set Q (bx x y)) := InR.set uT Q (bx_rng _ _).1 (bx_rng _ _).2
            have iff1 : l = l.set Q (bx x y) ↔ y = 0 := by
              rw [← bx_self_iff (by rw [hx1]; exact uT Q) hy0 (x := x)]
              constructor
              · intro e
                have := congrArg (fun z => nth z Q) e
                simp only [nth_set _ _ _ _ (show Q < l.length by rw [← HZ.out]; exact hQ1), if_true] at this
                rw [← hx1] at this
                exact this.symm
              · intro e
                rw [e, hx1]
                exact ext_nth _ _ (by simp) fun j hj => by
                  by_cases hjq : Q = j
                  · subst hjq; rw [nth_set _ _ _ _ hj, if_pos rfl]
                  · by_cases hql : Q < l.length
                    · rw [nth_set _ _ _ _ hql, if_neg hjq]
                    · rw [List.set_eq_of_length_le (by omega)]
            have hbS := hbc.setCell (p := ⟨gU, Q, none⟩) hgU (.int .u8 (bx x y))
            obtain ⟨zS, hzS⟩ : ∃ z, z = l.set Q (bx x y) := ⟨_, rfl⟩
            rw [← hzS] at pS uS iff1
            have HzS : Hid (zS.length = Z) := Lib.hid (by rw [hzS, List.length_set, ← HZ.out])
            obtain ⟨bz, hbz⟩ : ∃ bz, bz = (y == 0) := ⟨_, rfl⟩
            have D1 : Hid (decide (IsHash h ∧ l = zS) = bz) := Lib.hid (by
              rw [hbz]
              by_cases y0 : y = 0
              · rw [decide_eq_true ⟨hh, iff1.2 y0⟩]; simp [y0]
              · rw [decide_eq_false fun e => y0 (iff1.1 e.2)]; simp [y0])
            have D2 : Hid (decide (l = zS) = bz) := Lib.hid (by
              rw [hbz]
              by_cases y0 : y = 0
              · rw [decide_eq_true (iff1.2 y0)]; simp [y0]
              · rw [decide_eq_false fun e => y0 (iff1.1 e)]; simp [y0])
            have D3 : Hid (decide (zS = l) = bz) := Lib.hid (by
              rw [← D2.out]
              exact decide_eq_decide.2 ⟨Eq.symm, Eq.symm⟩)
            have sS := pS.sl
            have c5 := fun W (hb : Below w6.heap.size w6 W) (s : Sl .u8 W (some ⟨gU, 0, none⟩) cU zS) => ck W _ cU zS (hx.below hb) (hy.below hb) s uS (ht.below hb)
            rw [D1.out, HzS.out] at c5
            have c6 := fun W (hb : Below w6.heap.size w6 W) (s : Sl .u8 W (some ⟨gU, 0, none⟩) cU zS) => Equal_c _ _ _ _ _ _ W (sT.below hb) s uT uS
            rw [D2.out, HzS.out, ← HZ.out] at c6
            have c7 := fun W (hb : Below w6.heap.size w6 W) (s : Sl .u8 W (some ⟨gU, 0, none⟩) cU zS) => Equal_c _ _ _ _ _ _ W s (sT.below hb) uS uT
            rw [D3.out, HzS.out, ← HZ.out] at c7
            have hyz : (y == 0) = bz := hbz.symm
            have hQi : (Q : Int) < (Z : Int) := by omega
            have HR2 := Lib.hid hRP
            have hrem : pl.tmod (Z : Int) = RP := hRP.symm
            have hadd : RP + (Z : Int) = (Q : Int) := hQ
            clear hQ
            clear hzS iff1 hx1 hbz pC hbc pS hRP q2 rp
            go_wp2_with fail
            refine (c5 _ hbS sS).mono ?_; rintro e wd ⟨rfl, hb5⟩
            have sS1 := sS.below (w' := wd) (hb5)
            have hbd := hbS.trans (hb5.mono hbS.size)
            clear hb5 sS hbS c5
            go_wp2_with fail
            cases bz with
            | true =>
              go_wp2_with fail
              refine (c6 _ hbd sS1).mono ?_; rintro e we ⟨rfl, hb6⟩
              have sS2 := sS1.below hb6
              have hbe := hbd.trans (hb6.mono hbd.size)
              clear hb6
              go_wp2_with fail
              refine (c7 _ hbe sS2).mono ?_; rintro e wf ⟨rfl, hb7⟩
              have hbf := hbe.trans (hb7.mono hbe.size)
              have hB2 := hB.trans (hbf.mono hB.size)
              go_wp2_with fail
              go_ret
              exact ⟨rfl, hB2⟩
            | false =>
              go_wp2_with fail
              refine (c6 _ hbd sS1).mono ?_; rintro e we ⟨rfl, hb6⟩
              have sS2 := sS1.below hb6
              have hbe := hbd.trans (hb6.mono hbd.size)
              clear hb6
              go_wp2_with fail
              refine (c7 _ hbe sS2).mono ?_; rintro e wf ⟨rfl, hb7⟩
              have hbf := hbe.trans (hb7.mono hbe.size)
              have hB2 := hB.trans (hbf.mono hB.size)
              go_wp2_with fail
              go_ret
              exact ⟨rfl, hB2⟩
          · obtain ⟨Q, hQ⟩ : ∃ Q : Nat, RP = (Q : Int) := ⟨RP.toNat, by omega⟩
            have hQ1 : Q < Z := by omega
            have d6 : decide (RP < 0) = false := decide_eq_false q2
            have HQ := Lib.hid hQ
            have ct := pC.cell Q (by rw [← HZ.out]; exact hQ1)
            have cf := pC.free Q
            obtain ⟨x, hx1⟩ : ∃ x, x = nth l Q := ⟨_, rfl⟩
            rw [← hx1] at ct
            have bxe : bits .xor .u8 x y = bx x y := rfl
            have pS := pC.set Q (bx x y)
            have uS : U8 (l.set Q (bx x y)) := InR.set uT Q (bx_rng _ _).1 (bx_rng _ _).2
            have iff1 : l = l.set Q (bx x y) ↔ y = 0 := by
              rw [← bx_self_iff (by rw [hx1]; exact uT Q) hy0 (x := x)]
              constructor
              · intro e
                have := congrArg (fun z => nth z Q) e
                simp only [nth_set _ _ _ _ (show Q < l.length by rw [← HZ.out]; exact hQ1), if_true] at this
                rw [← hx1] at this
                exact this.symm
              · intro e
                rw [e, hx1]
                exact ext_nth _ _ (by simp) fun j hj => by
                  by_cases hjq : Q = j
                  · subst hjq; rw [nth_set _ _ _ _ hj, if_pos rfl]
                  · by_cases hql : Q < l.length
                    · rw [nth_set _ _ _ _ hql, if_neg hjq]
                    · rw [List.set_eq_of_length_le (by omega)]
            have hbS := hbc.setCell (p := ⟨gU, Q, none⟩) hgU (.int .u8 (bx x y))
            obtain ⟨zS, hzS⟩ : ∃ z, z = l.set Q (bx x y) := ⟨_, rfl⟩
            rw [← hzS] at pS uS iff1
            have HzS : Hid (zS.length = Z) := Lib.hid (by rw [hzS, List.length_set, ← HZ.out])
            obtain ⟨bz, hbz⟩ : ∃ bz, bz = (y == 0) := ⟨_, rfl⟩
            have D1 : Hid (decide (IsHash h ∧ l = zS) = bz) := Lib.hid (by
              rw [hbz]
              by_cases y0 : y = 0
              · rw [decide_eq_true ⟨hh, iff1.2 y0⟩]; simp [y0]
              · rw [decide_eq_false fun e => y0 (iff1.1 e.2)]; simp [y0])
            have D2 : Hid (decide (l = zS) = bz) := Lib.hid (by
              rw [hbz]
              by_cases y0 : y = 0
              · rw [decide_eq_true (iff1.2 y0)]; simp [y0]
              · rw [decide_eq_false fun e => y0 (iff1.1 e)]; simp [y0])
            have D3 : Hid (decide (zS = l) = bz) := Lib.hid (by
              rw [← D2.out]
              exact decide_eq_decide.2 ⟨Eq.symm, Eq.symm⟩)
            have sS := pS.sl
            have c5 := fun W (hb : Below w6.heap.size w6 W) (s : Sl .u8 W (some ⟨gU, 0, none⟩) cU zS) => ck W _ cU zS (hx.below hb) (hy.below hb) s uS (ht.below hb)
            rw [D1.out, HzS.out] at c5
            have c6 := fun W (hb : Below w6.heap.size w6 W) (s : Sl .u8 W (some ⟨gU, 0, none⟩) cU zS) => Equal_c _ _ _ _ _ _ W (sT.below hb) s uT uS
            rw [D2.out, HzS.out, ← HZ.out] at c6
            have c7 := fun W (hb : Below w6.heap.size w6 W) (s : Sl .u8 W (some ⟨gU, 0, none⟩) cU zS) => Equal_c _ _ _ _ _ _ W s (sT.below hb) uS uT
            rw [D3.out, HzS.out, ← HZ.out] at c7
            have hyz : (y == 0) = bz := hbz.symm
            have hQi : (Q : Int) < (Z : Int) := by omega
            have HR2 := Lib.hid hRP
            have hrem : pl.tmod (Z : Int) = RP := hRP.symm
            subst hQ
            clear d6
            have d6 : decide ((Q : Int) < 0) = false := decide_eq_false (by omega)
            clear hzS iff1 hx1 hbz pC hbc pS hRP q2 rp
            go_wp2_with fail
            refine (c5 _ hbS sS).mono ?_; rintro e wd ⟨rfl, hb5⟩
            have sS1 := sS.below (w' := wd) (hb5)
            have hbd := hbS.trans (hb5.mono hbS.size)
            clear hb5 sS hbS c5
            go_wp2_with fail
            cases bz with
            | true =>
              go_wp2_with fail
              refine (c6 _ hbd sS1).mono ?_; rintro e we ⟨rfl, hb6⟩
              have sS2 := sS1.below hb6
              have hbe := hbd.trans (hb6.mono hbd.size)
              clear hb6
              go_wp2_with fail
              refine (c7 _ hbe sS2).mono ?_; rintro e wf ⟨rfl, hb7⟩
              have hbf := hbe.trans (hb7.mono hbe.size)
              have hB2 := hB.trans (hbf.mono hB.size)
              go_wp2_with fail
              go_ret
              exact ⟨rfl, hB2⟩
            | false =>
              go_wp2_with fail
              refine (c6 _ hbd sS1).mono ?_; rintro e we ⟨rfl, hb6⟩
              have sS2 := sS1.below hb6
              have hbe := hbd.trans (hb6.mono hbd.size)
              clear hb6
              go_wp2_with fail
              refine (c7 _ hbe sS2).mono ?_; rintro e wf ⟨rfl, hb7⟩
              have hbf := hbe.trans (hb7.mono hbe.size)
              have hB2 := hB.trans (hbf.mono hB.size)
              go_wp2_with fail
              go_ret
              exact ⟨rfl, hB2⟩
  · have c := Check_c h a a' aT cap cap' cT k d zT _ hx hy sT ux uy uT (by omega) (by omega) ht
    rw [show decide (IsHash h ∧ hmac h k d = zT) = false from decide_eq_false fun e => hh e.1] at c
    rw [shaBlock_no hh]
    go_wp2_with fail
    refine c.mono ?_; rintro e wz ⟨rfl, hb⟩
    replace hB := hB.trans (hb.mono hB.size)
    go_wp2_with fail
    go_ret
    exact ⟨rfl, hB⟩
end Go.Proofs.YtiiedgbdooamaaaDoor
