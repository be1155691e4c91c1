import Derived.Test.YtbmdifeanocahaaDoorZ25
/- pss.Holds by its contract. (Printed by gen_pssi.py.) -/
set_option linter.unusedVariables false
set_option linter.unusedSimpArgs false
namespace Go.Sg
open Go.RowKit
theorem ng_ng (xs : List Int) : ng (ng xs) = xs := by
  unfold ng
  rw [List.map_map]
  have : ((fun x : Int => 255 - x) ∘ fun x => 255 - x) = id := by funext x; simp; omega
  rw [this, List.map_id]
theorem zero_take {U : List Int} {i : Nat} (h : ∀ j, j < i → nth U j = 0) (h2 : nth U i = 0) : ∀ j, j < i + 1 → nth U j = 0 := by
  intro j hj
  rcases Nat.lt_or_ge j i with q | q
  · exact h j q
  · obtain rfl : j = i := by omega
    exact h2
end Go.Sg
namespace Go.Proofs.YtbmdifeanocahaaDoor
open Go.RowKit Go.Sg

set_option maxHeartbeats 8000000 in
set_option maxRecDepth 20000 in
theorem pHolds_c (h bits' : Int) (a a' : Option Addr) (cap cap' : Nat) (d em : List Int) (w : World) (hx : Sl .u8 w a cap d) (hy : Sl .u8 w a' cap' em) (ux : U8 d) (uy : U8 em) (hl : d.length + em.length ≤ 1048576) (ht : ShaTabs w) :
    Calls Tryd.prog 58 #[.int .i64 h, .slice a d.length cap, .slice a' em.length cap', .int .i64 bits'] w (TellPost (decide (holdsOf h d em bits')) w) := by
  have sz := Size_c h w
  by_cases hh : IsHash h
  · obtain ⟨z, hz⟩ : ∃ z, z = shaSize h := ⟨_, rfl⟩
    have hz0 : 0 < z := by rw [hz]; exact hh.size_le.2.1
    have hz64 : z ≤ 64 := by rw [hz]; exact shaSize_le h
    rw [← hz] at sz
    have HZ := Lib.hid hz
    have e0 : ((z : Int) == 0) = false := beq_false_of_ne (by omega)
    clear hz
    by_cases hn : 0 ≤ bits' ∧ bits' ≤ 65536
    · obtain ⟨b, rfl⟩ : ∃ N : Nat, bits' = (N : Int) := ⟨bits'.toNat, by omega⟩
      have nb : b ≤ 65536 := by omega
      have d0 : decide ((b : Int) < 0) = false := decide_eq_false (by omega)
      have d1 : decide ((65536 : Int) < (b : Int)) = false := decide_eq_false (by omega)
      have d2 : ¬ (65536 : Int) < (b : Int) := by omega
      obtain ⟨E, hE⟩ : ∃ E, E = encLen b := ⟨_, rfl⟩
      have HE := Lib.hid hE
      have eb : E ≤ 8192 := by rw [hE]; unfold encLen; omega
      have q0 : ((b : Int) + 7) / 8 = (E : Int) := by rw [hE]; unfold encLen; omega
      clear hE
      by_cases hdz : d.length = z
      · have g1 : ((z : Int) != (z : Int)) = false := by simp
        by_cases hez : em.length = E
        · have g2 : ((E : Int) != (E : Int)) = false := by simp
          have w1' : IntKind.i64.wrap (2 * (z : Int)) = 2 * (z : Int) := by rw [IntKind.wrap_i64]; omega
          have w2' : IntKind.i64.wrap (2 * (z : Int) + 2) = 2 * (z : Int) + 2 := by rw [IntKind.wrap_i64]; omega
          by_cases hzE : 2 * z + 2 ≤ E
          · have g3 : decide ((E : Int) < 2 * (z : Int) + 2) = false := decide_eq_false (by omega)
            have g4 : ¬ (E : Int) < 2 * (z : Int) + 2 := by omega
            obtain ⟨n, hnE⟩ : ∃ n, n + z + 1 = E := ⟨E - z - 1, by omega⟩
            obtain ⟨E1, hE1⟩ : ∃ q, q + 1 = E := ⟨E - 1, by omega⟩
            obtain ⟨q, hq⟩ : ∃ q, q + z + 1 = n := ⟨n - z - 1, by omega⟩
            have x4 : (E : Int) - 1 = (E1 : Int) := by omega
            have w3' : IntKind.i64.wrap ((E : Int) - 1) = (E1 : Int) := by rw [IntKind.wrap_i64]; omega
            have i0 : (0 : Int) < (E : Int) := by omega
            have w4' : IntKind.i64.wrap (E1 : Int) = (E1 : Int) := by rw [IntKind.wrap_i64]; omega
            have i2 : ¬ (E1 : Int) < 0 := by omega
            have i3 : (0 : Int) ≤ (E1 : Int) := by omega
            have i1 : (E1 : Int) < (E : Int) := by omega
            have n0 : 0 < E := by omega
            have n1 : E1 < E := by omega
            have EL := Lib.hid hez
            have DL := Lib.hid hdz
            obtain ⟨b0, off, ea, hc⟩ := hy.cells (by omega)
            subst ea
            have cL := hc E1 (by omega)
            have cF := hc 0 (by omega)
            rw [Nat.add_zero] at cF
            have HI := holds_iff hh d em b n (by rw [← HZ.out]; omega) (by rw [← HZ.out]; omega) uy
            rw [← HZ.out, show n + z = E1 by omega, show n - z - 1 = q by omega, show n - z = q + 1 by omega] at HI
            have key : holdsOf h d em (b : Int) ↔ holdsAt h d em b n := by
              unfold holdsOf
              rw [Int.toNat_natCast, ← HE.out, ← HZ.out, show E - z - 1 = n by omega]
              exact ⟨fun q => q.2.2.2.2.2, fun q => ⟨hh, ⟨by omega, by omega⟩, hdz, hez, by omega, q⟩⟩
            have KEY := Lib.hid (key.trans HI)
            obtain ⟨xL, hxL⟩ : ∃ x, x = nth em E1 := ⟨_, rfl⟩
            obtain ⟨xF, hxF⟩ : ∃ x, x = nth em 0 := ⟨_, rfl⟩
            obtain ⟨t, htB⟩ : ∃ t, t = topB b := ⟨_, rfl⟩
            have hch := fun W => high_c b nb W
            rw [← htB] at hch
            rw [← hxL] at cL
            rw [← hxF] at cF
            have XL := Lib.hid hxL
            have XF := Lib.hid hxF
            have TB := Lib.hid htB
            rw [hez, hdz]
            clear hxL hxF htB HI key hn hez hdz
            by_cases h188 : xL = 188
            · have g5 : (xL != (188 : Int)) = false := by simp [h188]
              by_cases hand : bits .andNot .u8 xF t = 0
              · have g6 : (bits .andNot .u8 xF t != (0 : Int)) = false := by simp [hand]
                obtain ⟨aS0, haS⟩ : ∃ x, x = (if cap' = n then some (⟨b0, off, none⟩ : Addr) else (some (⟨b0, off, none⟩ : Addr)).map (·.add n)) := ⟨_, rfl⟩
                have hcy := hy.le
                have hcut1 := fun W => cut_lh (P := Tryd.prog) W 23 5 Tryd.underlying23 size8 (some ⟨b0, off, none⟩) E cap' n E1 (by omega) (by rw [EL.out] at hcy; omega) (n : Int) (E1 : Int) rfl rfl
                have hcut2 := fun W => cut_h0 (P := Tryd.prog) W 23 5 Tryd.underlying23 size8 (some ⟨b0, off, none⟩) E cap' n (by rw [EL.out] at hcy; omega)
                have sS := (hy.cut n (by rw [EL.out]; omega)).take z
                have sX := hy.take n
                obtain ⟨cS, hcS⟩ : ∃ x, x = cap' - n := ⟨_, rfl⟩
                rw [← haS, ← hcS] at sS hcut1
                rw [show E1 - n = z by omega] at hcut1
                obtain ⟨S, hS⟩ : ∃ S, S = (em.drop n).take z := ⟨_, rfl⟩
                obtain ⟨X, hX⟩ : ∃ X, X = em.take n := ⟨_, rfl⟩
                rw [← hS] at sS
                rw [← hX] at sX
                have lS : Hid (S.length = z) := Lib.hid (by rw [hS, List.length_take, List.length_drop, EL.out]; omega)
                have lX : Hid (X.length = n) := Lib.hid (by rw [hX, List.length_take, EL.out]; omega)
                have uS : U8 S := by rw [hS]; exact (uy.drop (by omega) _).take (by omega) _
                have uX : U8 X := by rw [hX]; exact uy.take (by omega) _
                have HS := Lib.hid hS
                have HX := Lib.hid hX
                have x1 : (E : Int) - (z : Int) - 1 = (n : Int) := by omega
                have x2 : (n : Int) - (z : Int) - 1 = (q : Int) := by omega
                have top := ht.top
                clear haS hcS hS hX hc hy hcy
                go_enter Tryd.func58, Tryd.ntmps58
                go_wp2_with fail
                refine sz.mono ?_; rintro e' w' ⟨rfl, rfl⟩
                go_wp2_with fail
                go_quiet ((go_at_call 70; exact Calls.quiet_of_same ((hch _).mono fun _ _ k => ⟨k.1, k.2.symm⟩)))
                clear sz cL cF
                obtain ⟨w0, hw0⟩ : ∃ x, x = w.drewN nq := ⟨_, rfl⟩
                have hbq : Below w.heap.size w w0 := by rw [hw0]; repeat (first | exact Below.refl _ _ | apply below_drewN)
                rw [← hw0]
                clear hw0
                have hx0 := hx.below hbq
                have ht0 := ht.below hbq
                have sS0 := sS.below hbq
                have sX0 := sX.below hbq
                have wq := hbq.size
                have cl := Clone_c ⟨b0, off, none⟩ cap' X w0 sX0 (by rw [lX.out]; omega)
                rw [lX.out] at cl
                clear hx ht sS sX
                go_wp2_with fail
                refine cl.mono ?_; rintro e' w1 ⟨v, rfl, nC, hb1⟩
                obtain ⟨G, C, rfl, hgB, pre⟩ := nC.pre (by rw [lX.out]; omega)
                rw [lX.out]
                have hC := pre.le
                have hCm := pre.max
                rw [lX.out] at hC
                have hx1 := hx0.below hb1
                have ht1 := ht0.below hb1
                have sS1 := sS0.below hb1
                have b1s := hb1.size
                have tG : shaTop ≤ G := Nat.le_trans top (Nat.le_trans wq hgB)
                have apS := sS0.apart hgB
                have apx := hx0.apart hgB
                have pre0 : Pre w1 G .u8 5 C (X ++ []) := by rw [List.append_nil]; exact pre
                have pm := pmask_c h hh aS0 cS S X [] G n C w1 sS1 uS lX.out _ (isR_pre G C 5) pre0 (by omega) hC (by rw [lS.out]; omega) apS tG ht1
                rw [lS.out] at pm
                clear nC pre cl sS0 hcut2 pre0
                go_wp2_with fail
                refine pm.mono ?_; rintro e' w2 ⟨rfl, hp2, hg2⟩
                rw [List.append_nil] at hp2
                have hx2 := hx1.grown' hg2 (fun b off ha hp e => apx b off ha hp (Option.some.inj e))
                have sS2 := sS1.grown' hg2 (fun b off ha hp e => apS b off ha hp (Option.some.inj e))
                have ht2 := ht1.grown hg2 tG
                have hb2 : Below w0.heap.size w0 w2 := below_then hb1 hg2 hgB b1s
                have b2s := hb2.size
                obtain ⟨U, hU⟩ : ∃ U, U = xl X (maskOf h S n) := ⟨_, rfl⟩
                rw [← hU] at hp2
                have lU : U.length = n := by rw [hU, xl_len, lX.out]
                have HU : Hid (U = undone h em n) := Lib.hid (by rw [hU, HX.out, HS.out]; unfold undone; rw [← HZ.out])
                have uU : U8 U := by rw [hU]; exact xl_u8 uX
                have c1 := hp2.cell 0 (by omega)
                have f1 := hp2.free 0
                obtain ⟨x, hx0'⟩ : ∃ x, x = nth U 0 := ⟨_, rfl⟩
                rw [← hx0'] at c1
                obtain ⟨y, hy0⟩ : ∃ y, y = bits .and .u8 x t := ⟨_, rfl⟩
                have a1 : bits .and .u8 x t = y := hy0.symm
                have hp3 := hp2.set 0 y
                have hg3 := grownBy_set w2 ⟨G, 0, none⟩ (.int .u8 y)
                obtain ⟨T, hT⟩ : ∃ T, T = U.set 0 y := ⟨_, rfl⟩
                rw [← hT] at hp3
                have lT : T.length = n := by rw [hT, List.length_set, lU]
                have uT : U8 T := by rw [hT]; exact InR.set uU 0 (by rw [hy0]; exact (and_u8 _ _).1) (by rw [hy0]; exact (and_u8 _ _).2)
                have HT : Hid (topped (topB b) (undone h em n) = T) := Lib.hid (by rw [hT, hy0, hx0', TB.out, ← HU.out]; rfl)
                have hc := hch w2.drew
                have hx3 : Sl .u8 (w2.setCell ⟨G, 0, none⟩ (.int .u8 y)).drew a cap d := (hx2.grown' hg3 (fun b off ha hp e => apx b off ha hp (Option.some.inj e))).drewN 1
                have sS3 : Sl .u8 (w2.setCell ⟨G, 0, none⟩ (.int .u8 y)).drew aS0 cS S := (sS2.grown' hg3 (fun b off ha hp e => apS b off ha hp (Option.some.inj e))).drewN 1
                have ht3 : ShaTabs (w2.setCell ⟨G, 0, none⟩ (.int .u8 y)).drew := (ht2.grown hg3 tG).below ((Below.refl _ _).drew)
                have hb3 := (hb2.setCell (p := ⟨G, 0, none⟩) hgB (.int .u8 y)).drew
                have n00 : 0 < n := by omega
                clear hp2 hg2 hg3 hx1 hx2 sS1 sS2 ht1 ht2 hb1 hU hx0' hy0 hT pm hch lU
                go_wp2_with fail
                go_still_tail 7, (by kernel_rfl)
                still_call (hc.mono fun e w' h => ⟨h.1, h.2.symm⟩)
                repeat still_step
                refine wpStill_nil ?_
                change wpList _ _ _ _ _ w2.drew
                have hp3' : Pre (w2.setCell ⟨G, 0, none⟩ (.int .u8 y)).drew G .u8 5 C T := hp3
                have hcut3 := fun W => cut_h0 (P := Tryd.prog) W 23 5 Tryd.underlying23 size8 (some ⟨G, 0, none⟩) n C q (by omega)
                have qn : q < n := by omega
                have LT := Lib.hid lT
                clear hp3 hc lT
                go_wp2_with fail
                obtain ⟨w3, hw3⟩ : ∃ x, x = (w2.setCell ⟨G, 0, none⟩ (.int .u8 y)).drew := ⟨_, rfl⟩
                rw [← hw3] at hp3' hx3 sS3 ht3 hb3 ⊢
                clear hw3 f1 a1 c1
                go_loopw [100] (fun t wr => ∃ i : Nat, i ≤ q ∧ t = .int .i64 (i : Int) ∧ (∀ j, j < i → nth T j = 0) ∧ Dr w3 wr) (fun t _ => q - (intOf t).toNat)
                case atStart => exact ⟨0, by omega, rfl, fun j hj => by omega, .refl _⟩
                case round =>
                  obtain ⟨i, hi, rfl, hz', nd, rfl⟩ := hrel
                  have HZZ := Lib.hid hz'
                  clear hz'
                  by_cases hlt : i < q
                  · have c0 := hp3'.cell i (by rw [LT.out]; omega)
                    obtain ⟨x, hxi⟩ : ∃ x, x = nth T i := ⟨_, rfl⟩
                    rw [← hxi] at c0
                    have hd : decide ((i : Int) < (q : Int)) = true := decide_eq_true (by omega)
                    have hin : (i : Int) < (q : Int) := by omega
                    by_cases hx0z : x = 0
                    · have g7 : (x != (0 : Int)) = false := by simp [hx0z]
                      have hz2 : Hid (∀ j, j < i + 1 → nth T j = 0) := Lib.hid (zero_take HZZ.out (by rw [← hxi, hx0z]))
                      clear hxi hx0z
                      go_wp2_with fail
                      go_roundw
                      case rel => exact ⟨i + 1, by omega, by go_num, hz2.out, (by repeat (first | exact Dr.refl _ | apply Dr.drewN))⟩
                      case measure => simp [intOf]; omega
                    · have e : Hid (decide (holdsOf h d em (b : Int)) = false) := Lib.hid (decide_eq_false fun k => hx0z (by
                        have := (KEY.out.1 k).2.2.1 i hlt
                        rwa [HT.out, ← hxi] at this))
                      have g7 : (x != (0 : Int)) = true := by simp [hx0z]
                      have fb := hbq.trans (hb3.mono wq)
                      clear hxi hx0z
                      go_wp2_with fail
                      go_ret
                      exact ⟨by rw [e.out]; first | done | rfl, (by repeat (first | exact fb | apply below_drewN))⟩
                  · obtain rfl : i = q := by omega
                    have hd : decide ((i : Int) < (i : Int)) = false := by simp
                    have c0 := hp3'.cell i (by rw [LT.out]; omega)
                    obtain ⟨x, hxi⟩ : ∃ x, x = nth T i := ⟨_, rfl⟩
                    rw [← hxi] at c0
                    have hin : (i : Int) < (n : Int) := by omega
                    have fb := hbq.trans (hb3.mono wq)
                    by_cases hx1z : x = 1
                    · have g7 : (x == (1 : Int)) = true := by simp [hx1z]
                      have hcut4 := fun W => cut_l (P := Tryd.prog) W 23 5 Tryd.underlying23 size8 (some ⟨G, 0, none⟩) n C (i + 1) (by omega) ((i : Int) + 1) (by omega)
                      have sT := (hp3'.sl).cut (i + 1) (by rw [LT.out]; omega)
                      obtain ⟨aT, haT⟩ : ∃ x, x = (if C = i + 1 then some (⟨G, 0, none⟩ : Addr) else (some (⟨G, 0, none⟩ : Addr)).map (·.add (i + 1))) := ⟨_, rfl⟩
                      obtain ⟨cT, hcT⟩ : ∃ x, x = C - (i + 1) := ⟨_, rfl⟩
                      rw [← haT, ← hcT] at sT hcut4
                      rw [show n - (i + 1) = z by omega] at hcut4
                      obtain ⟨R, hR⟩ : ∃ R, R = T.drop (i + 1) := ⟨_, rfl⟩
                      rw [← hR] at sT
                      have lR : Hid (R.length = z) := Lib.hid (by rw [hR, List.length_drop, LT.out]; omega)
                      have uR : U8 R := by rw [hR]; exact uT.drop (by omega) _
                      have ans : Hid (decide (holdsOf h d em (b : Int)) = decide (encSum h d R = S)) := Lib.hid (decide_eq_decide.2 (KEY.out.trans (by
                        rw [← XL.out, ← XF.out, ← TB.out, TB.out, HT.out, ← hxi, ← hR, ← HS.out]
                        exact ⟨fun k => k.2.2.2.2, fun k => ⟨h188, by rw [← TB.out]; exact hand, HZZ.out, hx1z, k⟩⟩)))
                      have sc := second_c h a aT cap cT d R _ (hx3.drewN nd) (sT.drewN nd) ux uR (by rw [DL.out, lR.out]; omega) (ht3.below (below_drewN (Below.refl _ _) nd))
                      rw [DL.out, lR.out] at sc
                      clear haT hcT hR hxi hx1z h188 hand
                      go_wp2_with fail
                      refine sc.mono ?_; rintro e' w5 ⟨v, rfl, nH, hb5⟩
                      obtain ⟨aH, cH, rfl, sH⟩ := nH.sl
                      obtain ⟨H, hH⟩ : ∃ H, H = encSum h d R := ⟨_, rfl⟩
                      rw [← hH] at sH ⊢
                      have uH : U8 H := by rw [hH]; exact encSum_u8 _ _ _
                      have ans2 : Hid (decide (holdsOf h d em (b : Int)) = decide (H = S)) := Lib.hid (by rw [ans.out, hH])
                      have be := BEqual_c aH aS0 cH cS H S w5 sH ((sS3.drewN nd).below hb5) uH uS
                      rw [lS.out] at be
                      have fb2 := fb.trans (((below_drewN (Below.refl _ _) nd).trans (hb5.mono (by simp))).mono fb.size)
                      clear nH hH sc hcut4 fb
                      go_wp2_with fail
                      refine be.mono ?_; rintro e' w6 ⟨rfl, rfl⟩
                      go_wp2_with fail
                      go_ret
                      exact ⟨by rw [ans2.out]; first | done | rfl, fb2⟩
                    · have e : Hid (decide (holdsOf h d em (b : Int)) = false) := Lib.hid (decide_eq_false fun k => hx1z (by
                        have := (KEY.out.1 k).2.2.2.1
                        rwa [HT.out, ← hxi] at this))
                      have g7 : (x == (1 : Int)) = false := by simp [hx1z]
                      clear hxi hx1z
                      go_wp2_with fail
                      go_ret
                      exact ⟨by rw [e.out]; first | done | rfl, (by repeat (first | exact fb | apply below_drewN))⟩
              · have e : Hid (decide (holdsOf h d em (b : Int)) = false) := Lib.hid (decide_eq_false fun k => hand (by
                  have := (KEY.out.1 k).2.1
                  rwa [← XF.out, ← TB.out] at this))
                obtain ⟨u, hu⟩ : ∃ u, u = bits .andNot .u8 xF t := ⟨_, rfl⟩
                have hu2 : bits .andNot .u8 xF t = u := hu.symm
                have g6 : (u != (0 : Int)) = true := by rw [hu]; simp [hand]
                clear hand hc hu KEY
                go_enter Tryd.func58, Tryd.ntmps58
                go_wp2_with fail
                refine sz.mono ?_; rintro e' w' ⟨rfl, rfl⟩
                go_wp2_with fail
                go_quiet ((go_at_call 70; exact Calls.quiet_of_same ((hch _).mono fun _ _ k => ⟨k.1, k.2.symm⟩)))
                go_wp2_with fail
                go_ret
                exact ⟨by rw [e.out]; first | done | rfl, (by repeat (first | exact Below.refl _ _ | apply below_drewN))⟩
            · have e : Hid (decide (holdsOf h d em (b : Int)) = false) := Lib.hid (decide_eq_false fun k => h188 (by
                have := (KEY.out.1 k).1
                rwa [← XL.out] at this))
              have g5 : (xL != (188 : Int)) = true := by simp [h188]
              clear hc KEY
              go_enter Tryd.func58, Tryd.ntmps58
              go_wp2_with fail
              refine sz.mono ?_; rintro e' w' ⟨rfl, rfl⟩
              go_wp2_with fail
              go_quiet (fail)
              go_wp2_with fail
              go_ret
              exact ⟨by rw [e.out]; first | done | rfl, (by repeat (first | exact Below.refl _ _ | apply below_drewN))⟩
          · have e : Hid (decide (holdsOf h d em (b : Int)) = false) := Lib.hid (decide_eq_false fun k => hzE (by
              have h2 := k.2.2.2.2.1
              rwa [Int.toNat_natCast, ← HE.out, ← HZ.out] at h2))
            have g3 : decide ((E : Int) < 2 * (z : Int) + 2) = true := decide_eq_true (by omega)
            rw [hez, hdz]
            clear hn hez hdz
            go_enter Tryd.func58, Tryd.ntmps58
            go_wp2_with fail
            refine sz.mono ?_; rintro e' w' ⟨rfl, rfl⟩
            go_wp2_with fail
            go_quiet (fail)
            go_wp2_with fail
            go_ret
            exact ⟨by rw [e.out]; first | done | rfl, (by repeat (first | exact Below.refl _ _ | apply below_drewN))⟩
        · have e : Hid (decide (holdsOf h d em (b : Int)) = false) := Lib.hid (decide_eq_false fun k => hez (by
            have h2 := k.2.2.2.1
            rwa [Int.toNat_natCast, ← HE.out] at h2))
          have g2 : ((em.length : Int) != (E : Int)) = true := by simp; omega
          rw [hdz]
          clear hn hdz
          go_enter Tryd.func58, Tryd.ntmps58
          go_wp2_with fail
          refine sz.mono ?_; rintro e' w' ⟨rfl, rfl⟩
          go_wp2_with fail
          go_quiet (fail)
          go_wp2_with fail
          go_ret
          exact ⟨by rw [e.out]; first | done | rfl, (by repeat (first | exact Below.refl _ _ | apply below_drewN))⟩
      · have e : Hid (decide (holdsOf h d em (b : Int)) = false) := Lib.hid (decide_eq_false fun q => hdz (by rw [q.2.2.1, HZ.out]))
        have g1 : ((d.length : Int) != (z : Int)) = true := by simp; omega
        clear hn
        go_enter Tryd.func58, Tryd.ntmps58
        go_wp2_with fail
        refine sz.mono ?_; rintro e' w' ⟨rfl, rfl⟩
        go_wp2_with fail
        go_ret
        exact ⟨by rw [e.out]; first | done | rfl, .refl _ _⟩
    · have e : Hid (decide (holdsOf h d em bits') = false) := Lib.hid (decide_eq_false fun q => hn q.2.1)
      by_cases q : bits' < 0
      · have d0 : decide (bits' < 0) = true := decide_eq_true q
        go_enter Tryd.func58, Tryd.ntmps58
        go_wp2_with fail
        refine sz.mono ?_; rintro e' w' ⟨rfl, rfl⟩
        go_wp2_with fail
        go_ret
        exact ⟨by rw [e.out]; first | done | rfl, .refl _ _⟩
      · have d0 : decide (bits' < 0) = false := decide_eq_false q
        have d1 : decide ((65536 : Int) < bits') = true := decide_eq_true (by omega)
        clear hn
        go_enter Tryd.func58, Tryd.ntmps58
        go_wp2_with fail
        refine sz.mono ?_; rintro e' w' ⟨rfl, rfl⟩
        go_wp2_with fail
        go_ret
        exact ⟨by rw [e.out]; first | done | rfl, .refl _ _⟩
  · rw [shaSize_no hh] at sz
    have e : Hid (decide (holdsOf h d em bits') = false) := Lib.hid (decide_eq_false fun q => hh q.1)
    go_enter Tryd.func58, Tryd.ntmps58
    go_wp2_with fail
    refine sz.mono ?_; rintro e' w' ⟨rfl, rfl⟩
    go_wp2_with fail
    go_ret
    exact ⟨by rw [e.out]; first | done | rfl, .refl _ _⟩
end Go.Proofs.YtbmdifeanocahaaDoor
