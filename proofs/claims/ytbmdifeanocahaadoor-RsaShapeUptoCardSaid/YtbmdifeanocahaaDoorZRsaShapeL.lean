import Derived.Test.YtbmdifeanocahaaDoorZ31
import Derived.Test.YtbmdifeanocahaaDoorZ6
/- signetlaw9.RsaShape by its contract. (Printed by gen_rsashape.py.) -/
set_option linter.unusedVariables false
set_option linter.unusedSimpArgs false
namespace Go.Proofs.YtbmdifeanocahaaDoor
open Go.RowKit Go.Sg

theorem size9 : (Tryd.prog.info? 5).map (·.size) = some 1 := by kernel_rfl
theorem rcode_no {h n : Int} (hh : ¬ IsHash h) (m : List Int) : rcode h n = 111 ∧ rres h m n = [] := by
  unfold rcode rres
  rw [if_neg hh, if_neg (fun k => hh k.1)]
  exact ⟨rfl, rfl⟩
theorem rcode_out {h n : Int} (hh : IsHash h) (hf : ¬ rfits h n) (m : List Int) : rcode h n = 90 ∧ rres h m n = [] := by
  unfold rcode rres
  rw [if_pos hh, if_neg hf, if_neg (fun k => hf k.2)]
  exact ⟨rfl, rfl⟩

set_option maxHeartbeats 16000000 in
set_option maxRecDepth 20000 in
theorem RsaShape_c (h : Int) (am : Option Addr) (pm : Nat) (m : List Int) (size : Int) (w : World) (sm : Sl .u8 w am pm m) (um : U8 m) (hz : m.length ≤ 1048576) (ht : ShaTabs w) (hi : Infos w) :
    Calls Tryd.prog 3 #[.int .i64 h, .slice am m.length pm, .int .i64 size] w (TruePost w) := by
  obtain ⟨zm, hzm⟩ : ∃ z, z = m.length := ⟨_, rfl⟩
  rw [← hzm] at hz ⊢
  obtain ⟨C, hC⟩ : ∃ C, C = rcode h size := ⟨_, rfl⟩
  obtain ⟨E, hE⟩ : ∃ E, E = rres h m size := ⟨_, rfl⟩
  obtain ⟨zE, hzE⟩ : ∃ z, z = E.length := ⟨_, rfl⟩
  obtain ⟨X, hX⟩ : ∃ C, C = sha h m := ⟨_, rfl⟩
  obtain ⟨z, hzx⟩ : ∃ C, C = shaSize h := ⟨_, rfl⟩
  have uX : U8 X := by rw [hX]; exact sha_u8 _ _
  have lX : Hid (X.length = z) := Lib.hid (by rw [hX, hzx, sha_len])
  have z64 : z ≤ 64 := by rw [hzx]; exact shaSize_le h
  have ec := pREncode_c h size am pm m w sm um (by omega) ht hi
  unfold REncPost at ec
  rw [← hC, ← hE, ← hzm] at ec
  have sa : ∀ W, Below w.heap.size w W → Calls Tryd.prog 14 #[.int .i64 h, .slice (some ⟨W.heap.size, 0, none⟩) 1 1] (W.alloc (.cells #[.slice am zm pm] 23)) (BytesPost X W) := by
    intro W hB
    have := Sum1_c h am pm m W (sm.below hB) um (by omega) (ht.below hB)
    rwa [← hzm, ← hX] at this
  have ec2 := fun (n : Nat) W (hB : Below w.heap.size w W) => pREncode_c h (n : Int) am pm m W (sm.below hB) um (by omega) (ht.below hB) (hi.below hB)
  unfold REncPost at ec2
  rw [← hzm] at ec2
  have ec1 : ∀ W, Below w.heap.size w W → Calls Tryd.prog 12 #[.int .i64 h, .slice am zm pm, .int .i64 size] W (fun e w' => ∃ v, e = .returned (.tuple #[v, .int .i64 C]) ∧ New W.heap.size .u8 5 w' v E ∧ Below W.heap.size W w') := by
    intro W hB
    have := pREncode_c h size am pm m W (sm.below hB) um (by omega) (ht.below hB) (hi.below hB)
    unfold REncPost at this
    rwa [← hC, ← hE, ← hzm] at this
  have al_ := alive_c w ht hi
  have kn := fun W => known9_c h W
  have HC := Lib.hid hC
  have HE := Lib.hid hE
  have HZE := Lib.hid hzE
  have HX := Lib.hid hX
  have HZ := Lib.hid hzx
  clear hzm hC hE hzE hX hzx ec sm ht hi
  go_enter Tryd.func3, Tryd.ntmps3
  have hB := Below.refl w.heap.size w
  go_wp2_with fail
  refine (al_).mono ?_; rintro e w1 ⟨rfl, hb⟩
  replace hB := hB.trans (hb.mono hB.size)
  clear hb
  clear al_
  go_wp2_with fail
  refine (ec1 _ hB).mono ?_; rintro e w2 ⟨v1, rfl, nE, hb⟩
  replace hB := hB.trans (hb.mono hB.size)
  clear hb
  obtain ⟨aE, cE, rfl, sE⟩ := nE.sl
  rw [← HZE.out]
  clear nE ec1
  by_cases hh : IsHash h
  · have k1 : decide (IsHash h) = true := decide_eq_true hh
    have HH := Lib.hid hh
    clear hh
    rw [k1] at kn
    go_wp2_with fail
    refine (kn _).mono ?_; rintro e_ w' ⟨rfl, rfl⟩
    clear kn k1
    go_wp2_with fail
    refine (sa _ hB).mono ?_; rintro e w3 ⟨vX, rfl, nX, hb⟩
    replace sE := sE.below hb
    replace hB := hB.trans (hb.mono hB.size)
    clear hb
    obtain ⟨aX, cX, rfl, sX⟩ := nX.sl
    rw [lX.out]
    clear nX sa
    obtain ⟨T, hT⟩ : ∃ T, T = 19 + z := ⟨_, rfl⟩
    have gT : (19 : Int) + (z : Int) = (T : Int) := by omega
    obtain ⟨T11, hT11⟩ : ∃ x, x = T + 11 := ⟨_, rfl⟩
    have gT11 : (T : Int) + 11 = (T11 : Int) := by omega
    have HT := Lib.hid hT
    have HT11 := Lib.hid hT11
    have Tb : T ≤ 83 := by omega
    have T11b : T11 ≤ 94 := by omega
    clear hT hT11
    by_cases h1 : size < (T11 : Int)
    · have d1 : decide (size < (T11 : Int)) = true := decide_eq_true h1
      have nf : ¬ rfits h size := fun k => by have := k.1; have := HT.out; have := HT11.out; have := HZ.out; omega
      obtain ⟨r1, r2⟩ := rcode_out HH.out nf m
      obtain rfl : C = 90 := by rw [HC.out, r1]
      obtain rfl : zE = 0 := by rw [HZE.out, HE.out, r2]; rfl
      clear h1 nf r1 r2
      go_wp2_with fail
      go_ret
      exact ⟨rfl, hB⟩
    · have d1 : decide (size < (T11 : Int)) = false := decide_eq_false h1
      by_cases h2 : 512 < size
      · have d2 : decide (512 < size) = true := decide_eq_true h2
        have nf : ¬ rfits h size := fun k => by have := k.2; omega
        obtain ⟨r1, r2⟩ := rcode_out HH.out nf m
        obtain rfl : C = 90 := by rw [HC.out, r1]
        obtain rfl : zE = 0 := by rw [HZE.out, HE.out, r2]; rfl
        clear h1 h2 nf r1 r2
        go_wp2_with fail
        go_ret
        exact ⟨rfl, hB⟩
      · have d2 : decide (512 < size) = false := decide_eq_false h2
        obtain ⟨n, rfl⟩ : ∃ n : Nat, size = (n : Int) := ⟨size.toNat, by omega⟩
        have nlo : 30 + shaSize h ≤ n := by have := HT.out; have := HT11.out; have := HZ.out; omega
        have nlz : 30 + z ≤ n := by have := HT.out; have := HT11.out; omega
        have nhi : n ≤ 512 := by omega
        obtain ⟨r1, r2⟩ := rres_eq HH.out (m := m) nlo nhi
        obtain rfl : C = 0 := by rw [r2] at HC; exact HC.out
        have EE : E = rOf h m n := by rw [HE.out, r1]
        obtain rfl : zE = n := by rw [HZE.out, EE, rOf_len nlo]
        have lE := HZE.out.symm
        clear r1 r2 HE h1 h2
        have ez := HZ.out
        obtain ⟨q, hq⟩ : ∃ q, q = zE - T := ⟨_, rfl⟩
        obtain ⟨q1, hq1⟩ : ∃ q, q = zE - T - 1 := ⟨_, rfl⟩
        obtain ⟨q2, hq2⟩ : ∃ q, q = zE - T + 1 := ⟨_, rfl⟩
        obtain ⟨r, hr⟩ : ∃ q, q = zE - z := ⟨_, rfl⟩
        obtain ⟨r1, hr1⟩ : ∃ q, q = zE - z - 1 := ⟨_, rfl⟩
        obtain ⟨v17, h17⟩ : ∃ q, q = 17 + z := ⟨_, rfl⟩
        have et := HT.out
        have gq : (zE : Int) - (T : Int) = (q : Int) := by omega
        have gq1 : (q : Int) - 1 = (q1 : Int) := by omega
        have gq2 : (q : Int) + 1 = (q2 : Int) := by omega
        have gr : (zE : Int) - (z : Int) = (r : Int) := by omega
        have gr1 : (r : Int) - 1 = (r1 : Int) := by omega
        have g17 : (T : Int) - 2 = (v17 : Int) := by omega
        have b17 : v17 ≤ 81 := by omega
        have nq1 : nth E q1 = 0 := by rw [EE]; exact rOf_sep nlo (by omega)
        have nq2 : nth E q2 = (v17 : Int) := by
          rw [EE, rOf_info nlo (k := 1) (by omega) (by omega), h17, ez]
          simp only [infoOf, nth]; simp
        have nr1 : nth E r1 = (z : Int) := by
          rw [EE, rOf_info nlo (k := 18) (by omega) (by omega), ez]
          simp only [infoOf, nth]; simp
        have nn0 : nth E 0 = 0 := by rw [EE]; exact rOf_0
        have nn1 : nth E 1 = 1 := by rw [EE]; exact rOf_1
        have ff : Hid (∀ i, 2 ≤ i → i < q1 → nth E i = 255) := Lib.hid fun i h1 h2 => by rw [EE]; exact rOf_ff h1 (by omega)
        have tl : E.drop r = X := by rw [EE, HX.out, hr, ez]; exact rOf_tail nlo
        obtain ⟨ad, sD, rb⟩ := sE.from (P := Tryd.prog) (T := 23) Tryd.underlying23 size9 r (by omega)
        rw [tl] at sD
        rw [lE, show zE - r = z by omega] at rb
        obtain ⟨b, off, eaE, hc⟩ := sE.cells (by omega)
        subst eaE
        have c0 := hc 0 (by omega)
        have c1 := hc 1 (by omega)
        have cq1 := hc q1 (by omega)
        rw [nn0] at c0
        simp only [Nat.add_zero] at c0
        have d1n : decide (zE < T11) = false := decide_eq_false (by omega)
        have d2n : decide (512 < zE) = false := decide_eq_false (by omega)
        rw [nn1] at c1
        rw [nq1] at cq1
        have lq1 : (q1 : Int) < (zE : Int) := by omega
        have lr : (r : Int) ≤ (zE : Int) := by omega
        have lE0 : (0 : Int) < (zE : Int) := by omega
        have lE1 : (1 : Int) < (zE : Int) := by omega
        have gnn : ((zE : Int) != (zE : Int)) = false := by simp
        have sc := fun W (h1 : Sl .u8 W ad (cE - r) X) (h2 : Sl .u8 W aX cX X) => same9_c ad aX (cE - r) cX X X W h1 h2 uX uX
        rw [show decide (X = X) = true from decide_eq_true rfl, lX.out] at sc
        obtain ⟨cD, hcD⟩ : ∃ c, c = cE - r := ⟨_, rfl⟩
        rw [← hcD] at sc sD rb
        have lq2 : (q2 : Int) < (zE : Int) := by omega
        have lr1 : (r1 : Int) < (zE : Int) := by omega
        have b2 : 2 ≤ q1 := by omega
        have q1z : q1 ≤ zE := by omega
        have q2z : q2 < zE := by omega
        have r1z : r1 < zE := by omega
        have EEH := Lib.hid EE
        clear hcD et ez hq hq1 hq2 hr hr1 h17 tl nn0 nn1 nq1 lE hc EE
        have HNQ2 := Lib.hid nq2
        have HNR1 := Lib.hid nr1
        clear nq2 nr1
        go_wp2_with fail
        refine (sc _ sD sX).mono ?_; rintro e w4 ⟨rfl, hb⟩
        replace sE := sE.below hb
        replace sX := sX.below hb
        replace sD := sD.below hb
        replace hB := hB.trans (hb.mono hB.size)
        clear hb
        clear sc rb c0 c1 cq1
        clear sD sX
        go_wp2_with fail
        obtain ⟨wc, hwc⟩ : ∃ x, x = w4 := ⟨_, rfl⟩
        rw [← hwc] at sE hB ⊢
        clear hwc
        go_loopw [11] (fun t wr => ∃ i : Nat, 2 ≤ i ∧ i ≤ q1 ∧ t = .int .i64 (i : Int) ∧ Dr wc wr) (fun t _ => q1 - (intOf t).toNat)
        case atStart => exact ⟨2, by omega, b2, rfl, .refl _⟩
        case round =>
          obtain ⟨i, hi2, hi, rfl, nd, rfl⟩ := hrel
          have lE := HZE.out
          by_cases hlt : i < q1
          · have hd : decide ((i : Int) < (q1 : Int)) = true := decide_eq_true (by omega)
            have lin : (i : Int) < (zE : Int) := by omega
            obtain ⟨b', off', eaE, hc⟩ := sE.cells (by omega)
            cases eaE
            have ci := hc i (by omega)
            rw [ff.out i hi2 hlt] at ci
            clear hc lE
            go_wp2_with fail
            go_roundw
            case rel => exact ⟨i + 1, by omega, by omega, by go_num, (by repeat (first | exact Dr.refl _ | apply Dr.drewN))⟩
            case measure => simp [intOf]; omega
          · obtain rfl : q1 = i := by omega
            have hd : decide ((q1 : Int) < (q1 : Int)) = false := by simp
            have hb := below_drewN (Below.refl wc.heap.size wc) nd
            replace sE := sE.below hb
            replace hB := hB.trans (hb.mono hB.size)
            clear hb
            obtain ⟨wX, hwX⟩ : ∃ x, x = wc.drewN nd := ⟨_, rfl⟩
            rw [← hwX] at sE hB ⊢
            obtain ⟨b', off', eaE, hc⟩ := sE.cells (by omega)
            cases eaE
            have cq2 := hc q2 (by omega)
            have cr1 := hc r1 (by omega)
            rw [HNQ2.out] at cq2
            rw [HNR1.out] at cr1
            have gvv : ((v17 : Int) != (v17 : Int)) = false := by simp
            have gzz : ((z : Int) != (z : Int)) = false := by simp
            by_cases h5 : zE = 512
            · have g5 : ((zE : Int) == 512) = true := by simp; omega
              clear h5 hc hwX hlt lE
              go_wp2_with fail
              go_ret
              exact ⟨rfl, hB⟩
            · have g5 : ((zE : Int) == 512) = false := by simp; omega
              obtain ⟨n1, hn1⟩ : ∃ x, x = zE + 1 := ⟨_, rfl⟩
              have gn1 : (zE : Int) + 1 = (n1 : Int) := by omega
              have en := ec2 n1 wX hB
              obtain ⟨s1, s2⟩ := rres_eq HH.out (m := m) (n := n1) (by omega) (by omega)
              rw [s1, s2] at en
              obtain ⟨F, hF⟩ : ∃ F, F = rOf h m n1 := ⟨_, rfl⟩
              have lF0 : F.length = n1 := by rw [hF]; exact rOf_len (by omega)
              have lF := Lib.hid lF0
              have f2 : nth F 2 = 255 := by rw [hF]; exact rOf_ff (by omega) (by omega)
              have dr : F.drop 3 = E.drop 2 := by rw [hF, EEH.out, hn1]; exact rOf_more nlo
              have F2 := Lib.hid f2
              have DRP := Lib.hid dr
              rw [← hF] at en
              have uY : U8 (E.drop 2) := by rw [EEH.out]; have h3 := rres_u8 h m (zE : Int); rw [(rres_eq HH.out (m := m) nlo nhi).1] at h3; exact h3.drop (by omega) 2
              obtain ⟨y, hy⟩ : ∃ y, y = zE - 2 := ⟨_, rfl⟩
              have y1 : n1 - 3 = y := by omega
              have y2 : zE - 2 = y := hy.symm
              have n1b : n1 ≤ 512 := by omega
              have n1l : 31 ≤ n1 := by omega
              have Y1 := Lib.hid y1
              have Y2 := Lib.hid y2
              obtain ⟨Y, hY⟩ : ∃ Y, Y = E.drop 2 := ⟨_, rfl⟩
              have HY := Lib.hid hY
              rw [← hY] at uY
              have lY : Hid (Y.length = y) := Lib.hid (by rw [hY, List.length_drop]; omega)
              have ll : Hid (E.length = zE) := Lib.hid lE.symm
              have z2 : 2 ≤ zE := by omega
              clear s1 s2 hF lF0 f2 dr hn1 hy y1 y2 hY hc hwX hlt lE h5
              go_wp2_with fail
              refine en.mono ?_; rintro e_ w21 ⟨v2, rfl, nF, hb⟩
              obtain ⟨aF, cF, rfl, sF⟩ := nF.sl
              rw [lF.out]
              clear nF
              replace sE := sE.below hb
              replace hB := hB.trans (hb.mono hB.size)
              clear hb
              obtain ⟨bF, offF, eaF, hcF⟩ := sF.cells (by rw [lF.out]; omega)
              subst eaF
              have cF2 := hcF 2 (by rw [lF.out]; omega)
              rw [F2.out] at cF2
              obtain ⟨a3, s3, rb3⟩ := sF.from (P := Tryd.prog) (T := 23) Tryd.underlying23 size9 3 (by rw [lF.out]; omega)
              obtain ⟨a2, s2, rb2⟩ := sE.from (P := Tryd.prog) (T := 23) Tryd.underlying23 size9 2 (by rw [ll.out]; omega)
              rw [DRP.out, ← HY.out] at s3
              rw [← HY.out] at s2
              rw [lF.out, Y1.out] at rb3
              rw [ll.out, Y2.out] at rb2
              have wn1 : IntKind.i64.wrap (n1 : Int) = (n1 : Int) := by rw [IntKind.wrap_i64]; omega
              rw [show ((3 : Nat) : Int) = 3 from rfl] at rb3
              rw [show ((2 : Nat) : Int) = 2 from rfl] at rb2
              have sc := same9_c _ _ _ _ _ _ _ (s3.drewN 1) (s2.drewN 1) uY uY
              rw [show decide (Y = Y) = true from decide_eq_true rfl, lY.out] at sc
              have gn : ((n1 : Int) == (n1 : Int)) = true := by simp
              have l2 : (2 : Int) < (n1 : Int) := by omega
              have l3 : (3 : Int) ≤ (n1 : Int) := by omega
              have HBd := hB.drew
              clear hcF s3 s2 sF sE
              go_wp2_with fail
              go_still_tail 20, (by kernel_rfl)
              change wpList _ _ _ _ _ w21.drew
              go_wp2_with fail
              refine sc.mono ?_; rintro e_ w22 ⟨rfl, hb⟩
              replace hB := HBd.trans (hb.mono HBd.size)
              go_wp2_with fail
              go_ret
              exact ⟨rfl, hB⟩
  · have k1 : decide (IsHash h) = false := decide_eq_false hh
    obtain ⟨r1, r2⟩ := rcode_no (n := size) hh m
    obtain rfl : C = 111 := by rw [HC.out, r1]
    obtain rfl : zE = 0 := by rw [HZE.out, HE.out, r2]; rfl
    clear hh r1 r2
    rw [k1] at kn
    go_wp2_with fail
    refine (kn _).mono ?_; rintro e_ w' ⟨rfl, rfl⟩
    clear kn k1
    go_wp2_with fail
    go_ret
    exact ⟨rfl, hB⟩
end Go.Proofs.YtbmdifeanocahaaDoor
