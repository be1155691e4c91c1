import Derived.Test.YtbmdifeanocahaaDoorZ37
/- signetref10.Holds by its contract. -/
set_option linter.unusedVariables false
set_option linter.unusedSimpArgs false
namespace Go.Sg
open Go.RowKit
theorem take_xl (ys M : List Int) (n : Nat) : (xl ys M).take n = xl (ys.take n) M := by
  induction ys generalizing M n with
  | nil => simp [xl]
  | cons y ys ih => cases n with
    | zero => simp [xl]
    | succ n => cases M with
      | nil => simp [xl]
      | cons m M => simp [xl, ih]
end Go.Sg
namespace Go.Proofs.YtbmdifeanocahaaDoor
open Go.RowKit Go.Sg

set_option maxHeartbeats 8000000 in
set_option maxRecDepth 20000 in
theorem rHolds_c (h bits' : Int) (a a' : Option Addr) (cap cap' : Nat) (d em : List Int) (w : World) (hx : Sl .u8 w a cap d) (hy : Sl .u8 w a' cap' em) (ux : U8 d) (uy : U8 em) (hl : d.length + em.length ≤ 1048576) (ht : RefTabs w) :
    Calls Tryd.prog 64 #[.int .i64 h, .slice a d.length cap, .slice a' em.length cap', .int .i64 bits'] w (TellPost (decide (holdsOf h d em bits')) w) := by
  have sz := rSize_c h w
  by_cases hh : IsHash h
  · obtain ⟨z, hz⟩ : ∃ z, z = shaSize h := ⟨_, rfl⟩
    have hz0 : 0 < z := by rw [hz]; exact hh.size_le.2.1
    have hz64 : z ≤ 64 := by rw [hz]; exact shaSize_le h
    rw [← hz] at sz
    have HZ := Lib.hid hz
    have e0 : ((z : Int) == 0) = false := beq_false_of_ne (by omega)
    clear hz
    by_cases hn : 0 ≤ bits' ∧ bits' ≤ 65536
    · obtain ⟨b, rfl⟩ : ∃ N : Nat, bits' = (N : Int) := ⟨bits'.toNat, by omega⟩
      have nb : b ≤ 65536 := by omega
      have d0 : decide ((b : Int) < 0) = false := decide_eq_false (by omega)
      have d1 : decide ((65536 : Int) < (b : Int)) = false := decide_eq_false (by omega)
      have d2 : ¬ (65536 : Int) < (b : Int) := by omega
      obtain ⟨E, hE⟩ : ∃ E, E = encLen b := ⟨_, rfl⟩
      have HE := Lib.hid hE
      have eb : E ≤ 8192 := by rw [hE]; unfold encLen; omega
      have q0 : ((b : Int) + 7) / 8 = (E : Int) := by rw [hE]; unfold encLen; omega
      have q1 : ((b : Int) + 7).tdiv 8 = (E : Int) := by rw [Int.tdiv_eq_ediv_of_nonneg (by omega)]; exact q0
      clear hE
      by_cases hdz : d.length = z
      · have g1 : ((z : Int) != (z : Int)) = false := by simp
        by_cases hf : em.length = E ∧ 2 * z + 2 ≤ E
        · obtain ⟨hez, hzE⟩ := hf
          have g2 : ((E : Int) != (E : Int)) = false := by simp
          have g3 : decide ((E : Int) < 2 * (z : Int) + 2) = false := decide_eq_false (by omega)
          have g4 : ¬ (E : Int) < 2 * (z : Int) + 2 := by omega
          obtain ⟨n, hnE⟩ : ∃ n, n + z + 1 = E := ⟨E - z - 1, by omega⟩
          obtain ⟨p, hpn⟩ : ∃ p, p + z = n := ⟨n - z, by omega⟩
          obtain ⟨E1, hE1⟩ : ∃ q, q + 1 = E := ⟨E - 1, by omega⟩
          have x1 : (E : Int) - (z : Int) - 1 = (n : Int) := by omega
          have x2 : (n : Int) - (z : Int) = (p : Int) := by omega
          have x4 : (E : Int) - 1 = (E1 : Int) := by omega
          have hcy := hy.le
          have EL := Lib.hid hez
          have DL := Lib.hid hdz
          have hcut := fun W => cut_lh (P := Tryd.prog) W 23 5 Tryd.underlying23 size8 a' E cap' n E1 (by omega) (by omega) (n : Int) (E1 : Int) rfl rfl
          have sS := (hy.cut n (by omega)).take z
          obtain ⟨aS, haS⟩ : ∃ x, x = (if cap' = n then a' else a'.map (·.add n)) := ⟨_, rfl⟩
          obtain ⟨cS, hcS⟩ : ∃ x, x = cap' - n := ⟨_, rfl⟩
          rw [← haS, ← hcS] at sS hcut
          rw [show E1 - n = z by omega] at hcut
          obtain ⟨S, hS⟩ : ∃ S, S = (em.drop n).take z := ⟨_, rfl⟩
          rw [← hS] at sS
          have lS : Hid (S.length = z) := Lib.hid (by rw [hS, List.length_take, List.length_drop]; omega)
          have uS : U8 S := by rw [hS]; exact (uy.drop (by omega) _).take (by omega) _
          have HS := Lib.hid hS
          have mk := rmask_c h hh aS cS S n w sS uS (by omega) (by rw [lS.out]; omega) ht
          rw [lS.out] at mk
          rw [hez, hdz]
          clear hn haS hcS hS hez hdz
          go_enter Tryd.func64, Tryd.ntmps64
          go_wp2_with fail
          refine sz.mono ?_; rintro e' w' ⟨rfl, rfl⟩
          clear sz
          go_wp2_with fail
          refine mk.mono ?_; rintro e w1 ⟨v, rfl, nM, hb1⟩
          obtain ⟨aM, cM, rfl, sM⟩ := nM.sl
          obtain ⟨M, hM⟩ : ∃ x, x = maskOf h S n := ⟨_, rfl⟩
          rw [← hM] at sM ⊢
          have lM : Hid (M.length = n) := Lib.hid (by rw [hM, maskOf_len hh])
          have HM := Lib.hid hM
          have hx1 := hx.below hb1
          have hy1 := hy.below hb1
          have ht1 := ht.below hb1
          have b1s := hb1.size
          rw [lM.out]
          clear nM hM mk sS hcut
          obtain ⟨U, hU⟩ : ∃ U, U = xl (em.take n) M := ⟨_, rfl⟩
          have lU : Hid (U.length = n) := Lib.hid (by rw [hU, xl_len, List.length_take, EL.out]; omega)
          have uU : U8 U := by rw [hU]; exact xl_u8 (uy.take (by omega) _)
          have nU : ∀ i, i < n → nth U i = bx (nth em i) (nth M i) := fun i hi => by
            rw [hU, xl_in _ _ _ (by rw [List.length_take, EL.out]; omega) (by rw [lM.out]; exact hi), nth_take _ _ _ hi]
          have HU := Lib.hid hU
          have NU := Lib.hid nU
          clear hU nU
          go_wp2_with fail
          go_loopw [12, 13] (fun v t wr => ∃ i : Nat, i ≤ n ∧ t = .int .i64 (i : Int) ∧ New w1.heap.size .u8 5 wr v (U.take i) ∧ Below w1.heap.size w1 wr) (fun _ t _ => n - (intOf t).toNat)
          case atStart => exact ⟨0, by omega, rfl, .nil _ _ _ _, .refl _ _⟩
          case round =>
            obtain ⟨i, hi, rfl, hv, hb⟩ := hrel
            have hbs := hb.size
            obtain ⟨l, hl1⟩ : ∃ l, l = U.take i := ⟨_, rfl⟩
            rw [← hl1] at hv
            have HLL : Hid (l.length = i) := Lib.hid (by rw [hl1, List.length_take, lU.out]; omega)
            have HL1 := Lib.hid hl1
            clear hl1
            by_cases hlt : i < n
            · obtain ⟨b', off, ea, hc⟩ := (hy1.below hb).cells (by rw [EL.out]; omega)
              obtain ⟨b2, off2, ea2, hc2⟩ := (sM.below hb).cells (by rw [lM.out]; omega)
              subst ea ea2
              have c0 := hc i (by rw [EL.out]; omega)
              have c1 := hc2 i (by rw [lM.out]; omega)
              obtain ⟨x, hxe⟩ : ∃ x, x = nth M i := ⟨_, rfl⟩
              obtain ⟨y, hye⟩ : ∃ y, y = nth em i := ⟨_, rfl⟩
              obtain ⟨r, hr⟩ : ∃ r, r = bx y x := ⟨_, rfl⟩
              rw [← hxe] at c1
              rw [← hye] at c0
              have hxo : bits .xor .u8 y x = r := hr.symm
              have fin : Hid (l ++ [r] = U.take (i + 1)) := Lib.hid (by rw [HL1.out, take_succ_nth _ _ (by rw [lU.out]; exact hlt), NU.out i hlt, ← hxe, ← hye, ← hr])
              have hin : (i : Int) < (n : Int) := by omega
              have hinE : (i : Int) < (E : Int) := by omega
              have hd1 : decide ((i : Int) < (n : Int)) = true := decide_eq_true hin
              have hlt1 := fun g hg => (hv.lt g hg).1
              clear hc hc2 hxe hye hr
              go_wp2_with fail
              go_region_law ((refine step_append_new _ (by rfl) (.tmp 70) (.tmp 80) 23 (by rfl) w1.heap.size 5 .u8 1 Tryd.underlying23 info8s _ _ (by rfl) (hv.alloc _).drew _ _ 1 [r] (by rfl) (by rfl) ((cells_one _ _ _ _ _ rfl).drewN 1) (by rw [HLL.out]; simp; omega) (by rw [HLL.out]; simp; omega) (by simp; omega) ?_; intro v' w' hv' hg'))
              all_goals (
                have hb' : Below w1.heap.size w1 w' := (hb.alloc hbs _).drew.grown hg' (by simp; omega) hlt1
                rw [fin.out] at hv'
                clear hv hg' hb
                go_wp2_with fail
                go_roundw
                case rel => exact ⟨i + 1, by omega, by go_num, hv', hb'⟩
                case measure => simp [intOf]; omega)
            · obtain rfl : n = i := by omega
              have hd1 : decide ((n : Int) < (n : Int)) = false := by simp
              have eU : Hid (l = U) := Lib.hid (by rw [HL1.out, List.take_of_length_le (by rw [lU.out]; exact Nat.le_refl _)])
              rw [eU.out] at hv
              obtain ⟨aU, cU, rfl, sU⟩ := hv.sl
              rw [lU.out]
              have hcu := sU.le
              have hcut := fun W => cut_l (P := Tryd.prog) W 23 5 Tryd.underlying23 size8 aU n cU p (by omega) (p : Int) rfl
              have sT := sU.cut p (by rw [lU.out]; omega)
              obtain ⟨aT, haT⟩ : ∃ x, x = (if cU = p then aU else aU.map (·.add p)) := ⟨_, rfl⟩
              obtain ⟨cT, hcT⟩ : ∃ x, x = cU - p := ⟨_, rfl⟩
              rw [← haT, ← hcT] at sT hcut
              rw [show n - p = z by omega] at hcut
              obtain ⟨T, hT⟩ : ∃ T, T = U.drop p := ⟨_, rfl⟩
              rw [← hT] at sT
              have lT : Hid (T.length = z) := Lib.hid (by rw [hT, List.length_drop, lU.out]; omega)
              have uT : U8 T := by rw [hT]; exact uU.drop (by omega) _
              have HT : Hid (T = saltOf h em n) := Lib.hid (by
                rw [hT, HU.out, HM.out, HS.out]
                unfold saltOf undone
                rw [← HZ.out, show n - z = p by omega])
              have fits : Hid (encFits h d T b) := Lib.hid ⟨by rw [DL.out, HZ.out], by rw [← HZ.out, ← HE.out, lT.out]; omega⟩
              have rng : Hid (0 ≤ (b : Int) ∧ (b : Int) ≤ 65536) := Lib.hid ⟨by omega, by omega⟩
              have er : Hid (eres h d T (b : Int) = encOf h d T b) := Lib.hid (by unfold eres; rw [if_pos ⟨hh, rng.out, by rw [Int.toNat_natCast]; exact fits.out⟩, Int.toNat_natCast])
              have ec : Hid (ecode h d T (b : Int) = 0) := Lib.hid (by unfold ecode; rw [if_pos hh, if_pos rng.out, if_pos (by rw [Int.toNat_natCast]; exact fits.out)])
              have en := rEncode_c h (b : Int) a aT cap cT d T wr (hx1.below hb) sT ux uT (by rw [DL.out, lT.out]; omega) (ht1.below hb)
              unfold EncPost at en
              rw [DL.out, lT.out, ec.out, er.out] at en
              clear haT hcT hT hv
              go_wp2_with fail
              refine en.mono ?_; rintro e w2 ⟨v, rfl, nW, hb2⟩
              obtain ⟨aW, cW, rfl, sW⟩ := nW.sl
              have lW0 : (encOf h d T b).length = E := by rw [encOf_len fits.out, HE.out]
              obtain ⟨zW, hW⟩ : ∃ x, x = encOf h d T b := ⟨_, rfl⟩
              rw [← hW] at sW lW0 ⊢
              have lW := Lib.hid lW0
              have HW := Lib.hid hW
              rw [lW.out]
              have hbt := hb1.trans ((hb.trans (hb2.mono hb.size)).mono b1s)
              have hy2 := (hy1.below hb).below hb2
              have ans : Hid (decide (holdsOf h d em (b : Int)) = decide (zW = em)) := Lib.hid (by
                have key : holdsOf h d em (b : Int) ↔ zW = em := by
                  unfold holdsOf holdsAt
                  rw [Int.toNat_natCast, ← HE.out, ← HZ.out, show E - z - 1 = n by omega, ← HT.out, HW.out]
                  unfold encOf
                  rw [← HE.out, ← HZ.out, show E - z - 1 = n by omega]
                  exact ⟨fun q => q.2.2.2.2.2.symm, fun q => ⟨hh, rng.out, DL.out, EL.out, by omega, q.symm⟩⟩
                exact decide_eq_decide.2 key)
              have hbts := hbt.size
              clear nW hW hb hb2 en lW0 hcut sT sU
              go_wp2_with fail
              go_loopw [17] (fun t wr => ∃ i : Nat, i ≤ E ∧ t = .int .i64 (i : Int) ∧ zW.take i = em.take i ∧ Dr w2 wr) (fun t _ => E - (intOf t).toNat)
              case atStart => exact ⟨0, by omega, rfl, by simp, .refl _⟩
              case round =>
                obtain ⟨i, hi, rfl, he, nd, rfl⟩ := hrel
                have HEE := Lib.hid he
                clear he
                by_cases hlt : i < E
                · obtain ⟨b', off, rfl, hc⟩ := sW.cells (by rw [lW.out]; omega)
                  obtain ⟨b2, off2, rfl, hc'⟩ := hy2.cells (by rw [EL.out]; omega)
                  have c0 := hc i (by rw [lW.out]; omega)
                  have c1 := hc' i (by rw [EL.out]; omega)
                  obtain ⟨p', hp'⟩ : ∃ p, p = nth zW i := ⟨_, rfl⟩
                  obtain ⟨q', hq'⟩ : ∃ q, q = nth em i := ⟨_, rfl⟩
                  rw [← hp'] at c0
                  rw [← hq'] at c1
                  have hd : decide ((i : Int) < (E : Int)) = true := decide_eq_true (by omega)
                  by_cases hpq : p' = q'
                  · have he : Hid (zW.take (i + 1) = em.take (i + 1)) := Lib.hid (by
                      rw [take_succ_nth _ _ (by rw [lW.out]; omega), take_succ_nth _ _ (by rw [EL.out]; omega), HEE.out, ← hp', ← hq', hpq])
                    have g5 : (p' != q') = false := by simp [hpq]
                    clear hc hc' hp' hq' hpq
                    go_wp2_with fail
                    go_quiet (fail)
                    go_wp2_with fail
                    go_roundw
                    case rel => exact ⟨i + 1, by omega, by go_num, he.out, (by repeat (first | exact Dr.refl _ | apply Dr.drewN))⟩
                    case measure => simp [intOf]; omega
                  · have e : Hid (decide (zW = em) = false) := Lib.hid (decide_eq_false fun e => hpq (by rw [hp', hq', e]))
                    have g5 : (p' != q') = true := by simp [hpq]
                    clear hc hc' hp' hq' hpq
                    go_wp2_with fail
                    go_quiet (fail)
                    go_wp2_with fail
                    go_ret
                    exact ⟨by rw [ans.out, e.out]; first | done | rfl, (by repeat (first | exact hbt | apply below_drewN))⟩
                · obtain rfl : i = E := by omega
                  have hd : decide ((i : Int) < (i : Int)) = false := by simp
                  have e : Hid (decide (zW = em) = true) := Lib.hid (decide_eq_true (by
                    have := HEE.out
                    rwa [List.take_of_length_le (by rw [lW.out]; exact Nat.le_refl _), List.take_of_length_le (by rw [EL.out]; exact Nat.le_refl _)] at this))
                  go_wp2_with fail
                  go_ret
                  exact ⟨by rw [ans.out, e.out]; first | done | rfl, (by repeat (first | exact hbt | apply below_drewN))⟩
        · have e : Hid (decide (holdsOf h d em (b : Int)) = false) := Lib.hid (decide_eq_false fun q => hf (by
            have h1 := q.2.2.2.1
            have h2 := q.2.2.2.2.1
            rw [Int.toNat_natCast, ← HE.out] at h1 h2
            rw [← HZ.out] at h2
            exact ⟨h1, h2⟩))
          rw [hdz]
          by_cases hez : em.length = E
          · have g2 : ((E : Int) != (E : Int)) = false := by simp
            have g3 : decide ((E : Int) < 2 * (z : Int) + 2) = true := decide_eq_true (by omega)
            have g4 : (E : Int) < 2 * (z : Int) + 2 := by omega
            rw [hez]
            clear hn hf hez hdz
            go_enter Tryd.func64, Tryd.ntmps64
            go_wp2_with fail
            refine sz.mono ?_; rintro e' w' ⟨rfl, rfl⟩
            go_wp2_with fail
            go_ret
            exact ⟨by rw [e.out]; first | done | rfl, .refl _ _⟩
          · have g2 : ((em.length : Int) != (E : Int)) = true := by simp; omega
            clear hn hf hdz
            go_enter Tryd.func64, Tryd.ntmps64
            go_wp2_with fail
            refine sz.mono ?_; rintro e' w' ⟨rfl, rfl⟩
            go_wp2_with fail
            go_ret
            exact ⟨by rw [e.out]; first | done | rfl, .refl _ _⟩
      · have e : Hid (decide (holdsOf h d em (b : Int)) = false) := Lib.hid (decide_eq_false fun q => hdz (by rw [q.2.2.1, HZ.out]))
        have g1 : ((d.length : Int) != (z : Int)) = true := by simp; omega
        clear hn
        go_enter Tryd.func64, Tryd.ntmps64
        go_wp2_with fail
        refine sz.mono ?_; rintro e' w' ⟨rfl, rfl⟩
        go_wp2_with fail
        go_ret
        exact ⟨by rw [e.out]; first | done | rfl, .refl _ _⟩
    · have e : Hid (decide (holdsOf h d em bits') = false) := Lib.hid (decide_eq_false fun q => hn q.2.1)
      by_cases q : bits' < 0
      · have d0 : decide (bits' < 0) = true := decide_eq_true q
        go_enter Tryd.func64, Tryd.ntmps64
        go_wp2_with fail
        refine sz.mono ?_; rintro e' w' ⟨rfl, rfl⟩
        go_wp2_with fail
        go_ret
        exact ⟨by rw [e.out]; first | done | rfl, .refl _ _⟩
      · have d0 : decide (bits' < 0) = false := decide_eq_false q
        have d1 : decide ((65536 : Int) < bits') = true := decide_eq_true (by omega)
        clear hn
        go_enter Tryd.func64, Tryd.ntmps64
        go_wp2_with fail
        refine sz.mono ?_; rintro e' w' ⟨rfl, rfl⟩
        go_wp2_with fail
        go_ret
        exact ⟨by rw [e.out]; first | done | rfl, .refl _ _⟩
  · rw [shaSize_no hh] at sz
    have e : Hid (decide (holdsOf h d em bits') = false) := Lib.hid (decide_eq_false fun q => hh q.1)
    go_enter Tryd.func64, Tryd.ntmps64
    go_wp2_with fail
    refine sz.mono ?_; rintro e' w' ⟨rfl, rfl⟩
    go_wp2_with fail
    go_ret
    exact ⟨by rw [e.out]; first | done | rfl, .refl _ _⟩
end Go.Proofs.YtbmdifeanocahaaDoor
