/- signetlaw10.PssMaskParts by its contract. (Printed by gen_pssmaskparts.py.) -/
import Derived.Test.YtponfoijmmegmaaDoorPssV
set_option linter.unusedVariables false
set_option linter.unusedSimpArgs false
namespace Go.Sg
open Go.RowKit
theorem mgf_nth (h : Int) (seed : List Int) (m c i : Nat) (hc : c < m) (hi : i < shaSize h) : nth (mgf h seed m) (c * shaSize h + i) = nth (sha h (seed ++ ctr c)) i := by
  induction m with
  | zero => omega
  | succ m ih =>
    rw [mgf]
    by_cases hcm : c < m
    · rw [nth_append_left _ _ _ (by
        rw [mgf_len]
        have : (c + 1) * shaSize h ≤ m * shaSize h := Nat.mul_le_mul_right _ hcm
        rw [Nat.succ_mul] at this
        omega)]
      exact ih hcm
    · obtain rfl : c = m := by omega
      have := nth_append_right (mgf h seed c) (sha h (seed ++ ctr c)) i
      rw [mgf_len] at this
      exact this
theorem mask_nth {h : Int} (hh : IsHash h) (seed : List Int) (n c i : Nat) (hi : i < shaSize h) (hn : c * shaSize h + i < n) : nth (maskOf h seed n) (c * shaSize h + i) = nth (sha h (seed ++ ctr c)) i := by
  unfold maskOf
  rw [nth_take _ _ _ hn]
  have h1 := hh.size_le.2.1
  have h2 : c ≤ c * shaSize h := Nat.le_mul_of_pos_right c h1
  exact mgf_nth h seed n c i (by omega) hi
theorem mask_take {h : Int} (hh : IsHash h) (seed : List Int) (n m : Nat) (hm : m ≤ n) : maskOf h seed m = (maskOf h seed n).take m := by
  have h1 := hh.size_le.2.1
  rw [← maskOf_eq hh seed n m (Nat.le_trans hm (Nat.le_mul_of_pos_right n h1))]
  unfold maskOf
  rw [List.take_take, Nat.min_eq_left hm]
end Go.Sg
namespace Go.Proofs.YtponfoijmmegmaaDoor
open Go.RowKit Go.Sg

set_option maxHeartbeats 8000000 in
set_option maxRecDepth 20000 in
theorem PssMaskParts_c (h n less : Int) (a : Option Addr) (cap : Nat) (seed : List Int) (w : World) (hx : Sl .u8 w a cap seed) (ux : U8 seed) (hz : seed.length ≤ 1048576) (ht : ShaTabs w) :
    Calls Tryd.prog 5 #[.int .i64 h, .slice a seed.length cap, .int .i64 n, .int .i64 less] w (TruePost w) := by
  obtain ⟨l, hl⟩ : ∃ l, l = seed.length := ⟨_, rfl⟩
  have SL := Lib.hid hl
  rw [← hl] at hz ⊢
  clear hl
  have sz := fun W => Size_c h W
  have mk := fun (n : Int) W (sx : Sl .u8 W a cap seed) (t : ShaTabs W) => pMask_c h n a cap seed W sx ux (by rw [← SL.out]; exact hz) t
  unfold MaskPost at mk
  rw [← SL.out] at mk
  obtain ⟨C, hC⟩ : ∃ C, C = mcode h n := ⟨_, rfl⟩
  have mk1 := mk n
  rw [← hC] at mk1
  go_enter Tryd.func5, Tryd.ntmps5
  have hB := Below.refl w.heap.size w
  go_wp2_with fail
  refine (awake_c w ht).mono ?_; rintro e w1 ⟨rfl, hb⟩
  replace hx := hx.below hb
  replace ht := ht.below hb
  replace hB := hB.trans (hb.mono hB.size)
  clear hb
  go_wp2_with fail
  refine (mk1 _ hx ht).mono ?_; rintro e w2 ⟨vB, rfl, nB, hb⟩
  replace hx := hx.below hb
  replace ht := ht.below hb
  replace hB := hB.trans (hb.mono hB.size)
  clear hb
  obtain ⟨aB, cB, rfl, sB⟩ := nB.sl
  clear nB mk1
  obtain ⟨zB, hB⟩ : ∃ z, z = mres h seed n := ⟨_, rfl⟩
  rw [← hB] at sB ⊢
  have uB : U8 zB := by rw [hB]; exact mres_u8 _ _ _
  have eB := Lib.hid hB
  clear hB
  by_cases hh : IsHash h
  · obtain ⟨z, hzz⟩ : ∃ z, z = shaSize h := ⟨_, rfl⟩
    have z0 : 0 < z := by rw [hzz]; exact hh.size_le.2.1
    have z64 : z ≤ 64 := by rw [hzz]; exact shaSize_le h
    rw [← hzz] at sz
    have HZ := Lib.hid hzz
    have e0 : ((z : Int) == 0) = false := beq_false_of_ne (by omega)
    clear hzz
    by_cases hn : 0 ≤ n ∧ n ≤ 65536
    · obtain ⟨N, rfl⟩ : ∃ N : Nat, n = (N : Int) := ⟨n.toNat, by omega⟩
      have nb : N ≤ 65536 := by omega
      have hB0 : Hid (zB = maskOf h seed N) := Lib.hid (by rw [eB.out]; unfold mres; rw [if_pos ⟨hh, hn⟩, Int.toNat_natCast])
      obtain rfl : C = 0 := by rw [hC]; unfold mcode; rw [if_pos hh, if_pos hn]
      have lB : Hid (zB.length = N) := Lib.hid (by rw [hB0.out, maskOf_len hh])
      have d0 : decide ((N : Int) < 0) = false := decide_eq_false (by omega)
      have d1 : decide ((65536 : Int) < (N : Int)) = false := decide_eq_false (by omega)
      have d2 : ¬ (65536 : Int) < (N : Int) := by omega
      have gN : ((N : Int) != (N : Int)) = false := by simp
      rw [lB.out]
      clear hn hC eB
      go_wp2_with fail
      refine (sz _).mono ?_; rintro e' w' ⟨rfl, rfl⟩
      go_wp2_with fail
      refine (sz _).mono ?_; rintro e' w' ⟨rfl, rfl⟩
      go_wp2_with fail
      clear d0 d1 d2 gN e0
      go_loopw [12] (fun t wr => ∃ c : Nat, c ≤ N ∧ t = .int .i64 (c : Int) ∧ Below w2.heap.size w2 wr) (fun t _ => N - (intOf t).toNat)
      case atStart => exact ⟨0, by omega, rfl, .refl _ _⟩
      case round =>
        obtain ⟨c, hc, rfl, hb⟩ := hrel
        obtain ⟨p, hp⟩ : ∃ p, p = c * z := ⟨_, rfl⟩
        have HP := Lib.hid hp
        have hcz : (c : Int) * (z : Int) = (p : Int) := by rw [hp, Int.natCast_mul]
        have pb : p ≤ 4194304 := by rw [hp]; exact Nat.le_trans (Nat.mul_le_mul hc z64) (Nat.mul_le_mul nb (Nat.le_refl 64))
        have wcz : IntKind.i64.wrap ((c : Int) * (z : Int)) = (p : Int) := by rw [hcz, IntKind.wrap_i64]; omega
        have wp0 : IntKind.i64.wrap (p : Int) = (p : Int) := by rw [IntKind.wrap_i64]; omega
        have hxr := hx.below hb
        have htr := ht.below hb
        have sBr := sB.below hb
        have hbs := hb.size
        clear hp
        by_cases hlt : p < N
        · have hcn : c < N := by
            have h1 := HP.out
            have h2 : c ≤ c * z := Nat.le_mul_of_pos_right c z0
            omega
          have hd1 : decide ((p : Int) < (N : Int)) = true := decide_eq_true (by omega)
          obtain ⟨x0, hx0⟩ : ∃ x, x = c / 16777216 % 256 := ⟨_, rfl⟩
          obtain ⟨x1, hx1⟩ : ∃ x, x = c / 65536 % 256 := ⟨_, rfl⟩
          obtain ⟨x2, hx2⟩ : ∃ x, x = c / 256 % 256 := ⟨_, rfl⟩
          obtain ⟨x3, hx3⟩ : ∃ x, x = c % 256 := ⟨_, rfl⟩
          have a0 : IntKind.u8.wrap ((c : Int) / 16777216) = (x0 : Int) := by rw [IntKind.wrap_u8', hx0]; omega
          have b0 : (c : Int) / 16777216 % 256 = (x0 : Int) := by rw [hx0]; omega
          have q1 : bits .and .i64 ((c : Int) / 65536) 255 = (x1 : Int) := by rw [i64_and255, hx1]; omega
          have q2 : bits .and .i64 ((c : Int) / 256) 255 = (x2 : Int) := by rw [i64_and255, hx2]; omega
          have q3 : bits .and .i64 (c : Int) 255 = (x3 : Int) := by rw [i64_and255, hx3]; omega
          have a1 : IntKind.u8.wrap (x1 : Int) = (x1 : Int) := by rw [IntKind.wrap_u8']; omega
          have a2 : IntKind.u8.wrap (x2 : Int) = (x2 : Int) := by rw [IntKind.wrap_u8']; omega
          have a3 : IntKind.u8.wrap (x3 : Int) = (x3 : Int) := by rw [IntKind.wrap_u8']; omega
          have ec : ctr c = [(x0 : Int), (x1 : Int), (x2 : Int), (x3 : Int)] := by rw [hx0, hx1, hx2, hx3]; rfl
          have xb : x1 < 256 ∧ x2 < 256 ∧ x3 < 256 := by omega
          have kb : Sl .u8 (wr.alloc (.cells #[.int .u8 (x0 : Int), .int .u8 (x1 : Int), .int .u8 (x2 : Int), .int .u8 (x3 : Int)] 5)) (some ⟨wr.heap.size, 0, none⟩) 4 (ctr c) := by
            rw [ec]; exact ⟨Nat.le_refl _, by simp, (cells_new .u8 wr 5 [(x0 : Int), (x1 : Int), (x2 : Int), (x3 : Int)] _ rfl _ rfl).cells⟩
          have al := (Below.refl wr.heap.size wr).alloc (Nat.le_refl _) (.cells #[.int .u8 (x0 : Int), .int .u8 (x1 : Int), .int .u8 (x2 : Int), .int .u8 (x3 : Int)] 5)
          have cs := Sum2_c h a (some ⟨wr.heap.size, 0, none⟩) cap 4 seed (ctr c) _ (hxr.below al) kb ux (ctr_u8 c) (by rw [ec, ← SL.out]; simp; omega) (htr.below al)
          have es : (wr.alloc (.cells #[.int .u8 (x0 : Int), .int .u8 (x1 : Int), .int .u8 (x2 : Int), .int .u8 (x3 : Int)] 5)).heap.size = wr.heap.size + 1 := by simp
          have el : (ctr c).length = 4 := rfl
          rw [es, el, ← SL.out] at cs
          clear hx0 hx1 hx2 hx3 ec kb el xb
          go_wp2_with fail
          refine cs.mono ?_; rintro e w4 ⟨vM, rfl, nM, hbM⟩
          have hb4 : Below w2.heap.size w2 w4 := hb.trans ((al.trans (hbM.mono (by rw [es]; omega))).mono hbs)
          obtain ⟨aM, cM, rfl, sM⟩ := nM.sl
          obtain ⟨zM, hzM⟩ : ∃ z, z = sha h (seed ++ ctr c) := ⟨_, rfl⟩
          rw [← hzM] at sM ⊢
          have lM : Hid (zM.length = z) := Lib.hid (by rw [hzM, sha_len, HZ.out])
          have eM : Hid (∀ i, i < z → p + i < N → nth zB (p + i) = nth zM i) := Lib.hid fun i h1 h2 => by
            rw [hB0.out, hzM, HP.out, HZ.out]
            exact mask_nth hh seed N c i (by rw [← HZ.out]; exact h1) (by rw [← HZ.out, ← HP.out]; exact h2)
          have sB4 := (sB.below hb4)
          rw [lM.out]
          clear nM hzM cs al es a0 a1 a2 a3 b0 q1 q2 q3 hb hbM hxr htr sBr
          go_wp2_with fail
          go_loopw [14] (fun t wr => ∃ i : Nat, i ≤ z ∧ t = .int .i64 (i : Int) ∧ Dr w4 wr) (fun t _ => z - (intOf t).toNat)
          case atStart => exact ⟨0, by omega, rfl, .refl _⟩
          case round =>
            obtain ⟨i, hi, rfl, nd, rfl⟩ := hrel
            have wpi : IntKind.i64.wrap ((p : Int) + (i : Int)) = (p : Int) + (i : Int) := by rw [IntKind.wrap_i64]; omega
            by_cases h1 : i < z
            · have g1 : decide ((i : Int) < (z : Int)) = true := decide_eq_true (by omega)
              by_cases h2 : p + i < N
              · have g2 : decide ((p : Int) + (i : Int) < (N : Int)) = true := decide_eq_true (by omega)
                obtain ⟨b1, o1, ea1, k1⟩ := sB4.cells (by rw [lB.out]; omega)
                obtain ⟨b2, o2, ea2, k2⟩ := sM.cells (by rw [lM.out]; omega)
                subst ea1 ea2
                have c1 := k1 (p + i) (by rw [lB.out]; omega)
                have c2 := k2 i (by rw [lM.out]; omega)
                rw [eM.out i h1 h2] at c1
                obtain ⟨v, hv⟩ : ∃ v, v = nth zM i := ⟨_, rfl⟩
                rw [← hv] at c1 c2
                have gv : (v != v) = false := by simp
                obtain ⟨pi, hpi⟩ : ∃ q, q = p + i := ⟨_, rfl⟩
                have hpi2 : (p : Int) + (i : Int) = (pi : Int) := by omega
                have wpi2 : IntKind.i64.wrap (pi : Int) = (pi : Int) := by rw [IntKind.wrap_i64]; omega
                have pin : (pi : Int) < (N : Int) := by omega
                have pi0 : (0 : Int) ≤ (pi : Int) := by omega
                have iz : (i : Int) < (z : Int) := by omega
                have gp : decide ((pi : Int) < (N : Int)) = true := decide_eq_true pin
                rw [← hpi] at c1
                clear k1 k2 hv hpi g2
                go_wp2_with fail
                go_quiet (fail)
                go_wp2_with fail
                go_roundw
                case rel => exact ⟨i + 1, by omega, by go_num, (by repeat (first | exact Dr.refl _ | apply Dr.drewN))⟩
                case measure => simp [intOf]; omega
              · have g2 : decide ((p : Int) + (i : Int) < (N : Int)) = false := decide_eq_false (by omega)
                have hb5 := below_drewN hb4 nd
                have wc1 : IntKind.i64.wrap ((c : Int) + 1) = (c : Int) + 1 := by rw [IntKind.wrap_i64]; omega
                go_wp2_with fail
                go_roundw
                case rel => exact ⟨c + 1, by omega, by go_num, hb5⟩
                case measure => simp [intOf]; omega
            · obtain rfl : z = i := by omega
              have g1 : decide ((z : Int) < (z : Int)) = false := by simp
              have hb5 := below_drewN hb4 nd
              go_wp2_with fail
              go_roundw
              case rel => exact ⟨c + 1, by omega, by go_num, hb5⟩
              case measure => simp [intOf]; omega
        · have hd1 : decide ((p : Int) < (N : Int)) = false := decide_eq_false (by omega)
          have hBr := hB.trans (hb.mono hB.size)
          by_cases hl0 : less < 0
          · have g1 : decide (less < 0) = true := decide_eq_true hl0
            go_wp2_with fail
            go_ret
            exact ⟨rfl, hBr⟩
          · have g1 : decide (less < 0) = false := decide_eq_false hl0
            by_cases hl1 : (N : Int) < less
            · have g2 : decide ((N : Int) < less) = true := decide_eq_true hl1
              go_wp2_with fail
              go_ret
              exact ⟨rfl, hBr⟩
            · have g2 : decide ((N : Int) < less) = false := decide_eq_false hl1
              obtain ⟨k, rfl⟩ : ∃ k : Nat, less = (k : Int) := ⟨less.toNat, by omega⟩
              have kn : k ≤ N := by omega
              have mr : mres h seed (k : Int) = maskOf h seed k := by unfold mres; rw [if_pos ⟨hh, by omega, by omega⟩, Int.toNat_natCast]
              have mc : mcode h (k : Int) = 0 := by unfold mcode; rw [if_pos hh, if_pos ⟨by omega, by omega⟩]
              have m2 := mk (k : Int) wr hxr htr
              rw [mr, mc] at m2
              clear mr mc mk
              go_wp2_with fail
              refine m2.mono ?_; rintro e w4 ⟨vK, rfl, nK, hbK⟩
              obtain ⟨aK, cK, rfl, sK⟩ := nK.sl
              obtain ⟨zK, hzK⟩ : ∃ z, z = maskOf h seed k := ⟨_, rfl⟩
              rw [← hzK] at sK ⊢
              have lK : Hid (zK.length = k) := Lib.hid (by rw [hzK, maskOf_len hh])
              have uK : U8 zK := by rw [hzK]; exact maskOf_u8 _ _ _
              have eK : Hid (zK = zB.take k) := Lib.hid (by rw [hzK, hB0.out]; exact mask_take hh seed N k kn)
              have sT := (sBr.below hbK).take k
              have hcb := sB.le
              rw [lB.out] at hcb
              have hcut := fun W => cut_h0 (P := Tryd.prog) W 23 5 Tryd.underlying23 size8 aB N cB k (by omega)
              have uT : U8 (zB.take k) := uB.take (by omega) _
              have lT : (zB.take k).length = k := by rw [List.length_take, lB.out]; omega
              have cm := same10_c _ _ _ _ _ _ _ sK sT uK uT
              rw [show decide (zK = zB.take k) = true from decide_eq_true eK.out, lT, lK.out] at cm
              rw [lK.out]
              clear nK hzK m2 lT
              go_wp2_with fail
              refine cm.mono ?_; rintro e w5 ⟨rfl, hb5⟩
              go_wp2_with fail
              go_ret
              exact ⟨rfl, hBr.trans (((hbK.trans (hb5.mono hbK.size))).mono hBr.size)⟩
    · have hB0 : zB = [] := by rw [eB.out]; unfold mres; exact if_neg fun e => hn e.2
      subst hB0
      obtain rfl : C = 10 := by rw [hC]; unfold mcode; rw [if_pos hh, if_neg hn]
      clear hC eB
      by_cases q : n < 0
      · have d0 : decide (n < 0) = true := decide_eq_true q
        go_wp2_with fail
        refine (sz _).mono ?_; rintro e' w' ⟨rfl, rfl⟩
        go_wp2_with fail
        go_ret
        exact ⟨rfl, hB⟩
      · have d0 : decide (n < 0) = false := decide_eq_false q
        have d1 : decide ((65536 : Int) < n) = true := decide_eq_true (by omega)
        clear hn
        go_wp2_with fail
        refine (sz _).mono ?_; rintro e' w' ⟨rfl, rfl⟩
        go_wp2_with fail
        go_ret
        exact ⟨rfl, hB⟩
  · have hB0 : zB = [] := by rw [eB.out]; unfold mres; exact if_neg fun e => hh e.1
    subst hB0
    obtain rfl : C = 111 := by rw [hC]; unfold mcode; rw [if_neg hh]
    rw [shaSize_no hh] at sz
    clear hC eB
    go_wp2_with fail
    refine (sz _).mono ?_; rintro e' w' ⟨rfl, rfl⟩
    go_wp2_with fail
    go_ret
    exact ⟨rfl, hB⟩
end Go.Proofs.YtponfoijmmegmaaDoor
