/- signetlaw5.HmacChecks, its walk. (Printed by gen_hmacchecks.py.) -/
import Derived.Test.YtiiedgbdooamaaaDoorFollowL
import Derived.Deep.RegionHeld3
import Derived.Deep.RegionWith
set_option linter.unusedVariables false
set_option linter.unusedSimpArgs false
namespace Go.Proofs.YtiiedgbdooamaaaDoor
open Go.RowKit Go.Sg

set_option maxHeartbeats 16000000 in
set_option maxRecDepth 100000 in
theorem HmacChecks_c (h : Int) (a a' aq : Option Addr) (cap cap' capq : Nat) (k d t : List Int) (w : World) (hx : Sl .u8 w a cap k) (ux : U8 k) (hy : Sl .u8 w a' cap' d) (uy : U8 d) (hq : Sl .u8 w aq capq t) (uq : U8 t) (hz : k.length + d.length + t.length ≤ 1048576) (ht : ShaTabs w) (hr : RefTabs w) :
    Calls Tryd.prog 9 #[.int .i64 h, .slice a k.length cap, .slice a' d.length cap', .slice aq t.length capq] w (TruePost w) := by
  have ht0 := ht
  have hr0 := hr
  obtain ⟨B1, hB1⟩ : ∃ b, b = decide (IsHash h ∧ hmac h k d = t) := ⟨_, rfl⟩
  have HB1 := Lib.hid hB1
  obtain ⟨B2, hB2⟩ : ∃ b, b = decide (d = t) := ⟨_, rfl⟩
  have HB2 := Lib.hid hB2
  clear hB1 hB2
  go_enter Tryd.func9, Tryd.ntmps9
  have hB := Below.refl w.heap.size w
  go_wp2_with fail
  refine (marked_c a cap k _ hx (by omega)).mono ?_; rintro e w1 ⟨gK, cK, rfl, hgK, pK, hb⟩
  have zs1 := hb.size
  replace hx := hx.below hb
  replace hy := hy.below hb
  replace hq := hq.below hb
  replace ht := ht.below hb
  replace hr := hr.below hb
  replace hB := hB.trans (hb.mono hB.size)
  clear hb
  have gKlt := pK.lt
  obtain ⟨nK, hnK⟩ : ∃ n, n = (k ++ marks 200).length := ⟨_, rfl⟩
  rw [← hnK]
  have HNK := Lib.hid hnK
  clear hnK
  go_wp2_with fail
  refine (marked_c a' cap' d _ hy (by omega)).mono ?_; rintro e w2 ⟨gD, cD, rfl, hgD, pD, hb⟩
  have zs2 := hb.size
  replace hx := hx.below hb
  replace hy := hy.below hb
  replace hq := hq.below hb
  replace ht := ht.below hb
  replace hr := hr.below hb
  replace pK := pK.keep hb
  replace hB := hB.trans (hb.mono hB.size)
  clear hb
  have gDlt := pD.lt
  obtain ⟨nD, hnD⟩ : ∃ n, n = (d ++ marks 200).length := ⟨_, rfl⟩
  rw [← hnD]
  have HND := Lib.hid hnD
  clear hnD
  go_wp2_with fail
  refine (marked_c aq capq t _ hq (by omega)).mono ?_; rintro e w3 ⟨gT, cT, rfl, hgT, pT, hb⟩
  have zs3 := hb.size
  replace hx := hx.below hb
  replace hy := hy.below hb
  replace hq := hq.below hb
  replace ht := ht.below hb
  replace hr := hr.below hb
  replace pK := pK.keep hb
  replace pD := pD.keep hb
  replace hB := hB.trans (hb.mono hB.size)
  clear hb
  have gTlt := pT.lt
  obtain ⟨nT, hnT⟩ : ∃ n, n = (t ++ marks 200).length := ⟨_, rfl⟩
  rw [← hnT]
  have HNT := Lib.hid hnT
  clear hnT
  have lK := pK.le
  have lD := pD.le
  have lT := pT.le
  rw [List.length_append] at lK lD lT
  have gKw : w.heap.size ≤ gK := hgK
  have gDw : w.heap.size ≤ gD := by omega
  have gTw : w.heap.size ≤ gT := by omega
  have gKD : gK ≠ gD := by omega
  have gKT : gK ≠ gT := by omega
  have gDT : gD ≠ gT := by omega
  have hcK := fun W => cut_h0 (P := Tryd.prog) W 29 5 Tryd.underlying29 size8 (some ⟨gK, 0, none⟩) nK cK k.length (by omega)
  have hcD := fun W => cut_h0 (P := Tryd.prog) W 29 5 Tryd.underlying29 size8 (some ⟨gD, 0, none⟩) nD cD d.length (by omega)
  have hcT := fun W => cut_h0 (P := Tryd.prog) W 29 5 Tryd.underlying29 size8 (some ⟨gT, 0, none⟩) nT cT t.length (by omega)
  clear hgK hgD hgT gKlt gDlt zs1 zs2 zs3 lK lD lT
  go_wp2_with fail
  go_still_tail 13, (by kernel_rfl)
  change wpList _ _ _ _ _ w3.drew
  obtain ⟨w4, hw4⟩ : ∃ x : World, x = w3.drew := ⟨_, rfl⟩
  rw [← hw4]
  have hb : Below w3.heap.size w3 w4 := by rw [hw4]; exact (Below.refl _ _).drew
  replace hx := hx.below hb
  replace hy := hy.below hb
  replace hq := hq.below hb
  replace ht := ht.below hb
  replace hr := hr.below hb
  replace pK := pK.keep hb
  replace pD := pD.keep hb
  replace pT := pT.keep hb
  replace hB := hB.trans (hb.mono hB.size)
  clear hb hw4
  have cc := Check_c h (some ⟨gK, 0, none⟩) (some ⟨gD, 0, none⟩) (some ⟨gT, 0, none⟩) cK cD cT k d t _ pK.window pD.window pT.window ux uy uq (by omega) (by omega) ht
  rw [← HB1.out] at cc
  go_wp2_with fail
  refine (cc).mono ?_; rintro e w5 ⟨rfl, hb⟩
  replace hx := hx.below hb
  replace hy := hy.below hb
  replace hq := hq.below hb
  replace ht := ht.below hb
  replace hr := hr.below hb
  replace pK := pK.keep hb
  replace pD := pD.keep hb
  replace pT := pT.keep hb
  replace hB := hB.trans (hb.mono hB.size)
  clear hb
  clear cc
  go_wp2_with fail
  go_still_tail 8, (by kernel_rfl)
  change wpList _ _ _ _ _ w5.drew
  obtain ⟨w6, hw6⟩ : ∃ x : World, x = w5.drew := ⟨_, rfl⟩
  rw [← hw6]
  have hb : Below w5.heap.size w5 w6 := by rw [hw6]; exact (Below.refl _ _).drew
  replace hx := hx.below hb
  replace hy := hy.below hb
  replace hq := hq.below hb
  replace ht := ht.below hb
  replace hr := hr.below hb
  replace pK := pK.keep hb
  replace pD := pD.keep hb
  replace pT := pT.keep hb
  replace hB := hB.trans (hb.mono hB.size)
  clear hb hw6
  have cc := Equal_c (some ⟨gD, 0, none⟩) (some ⟨gT, 0, none⟩) cD cT d t _ pD.window pT.window uy uq
  rw [← HB2.out] at cc
  go_wp2_with fail
  refine (cc).mono ?_; rintro e w7 ⟨rfl, hb⟩
  replace hx := hx.below hb
  replace hy := hy.below hb
  replace hq := hq.below hb
  replace ht := ht.below hb
  replace hr := hr.below hb
  replace pK := pK.keep hb
  replace pD := pD.keep hb
  replace pT := pT.keep hb
  replace hB := hB.trans (hb.mono hB.size)
  clear hb
  clear cc
  have cc := rCheck_c h a a' aq cap cap' capq k d t _ hx hy hq ux uy uq (by omega) hr
  rw [← HB1.out] at cc
  go_wp2_with fail
  refine (cc).mono ?_; rintro e w8 ⟨rfl, hb⟩
  replace hx := hx.below hb
  replace hy := hy.below hb
  replace hq := hq.below hb
  replace ht := ht.below hb
  replace hr := hr.below hb
  replace pK := pK.keep hb
  replace pD := pD.keep hb
  replace pT := pT.keep hb
  replace hB := hB.trans (hb.mono hB.size)
  clear hb
  clear cc
  have cc := rEqual_c a' aq cap' capq d t _ hy hq uy uq
  rw [← HB2.out] at cc
  go_wp2_with fail
  refine (cc).mono ?_; rintro e w9 ⟨rfl, hb⟩
  replace hx := hx.below hb
  replace hy := hy.below hb
  replace hq := hq.below hb
  replace ht := ht.below hb
  replace hr := hr.below hb
  replace pK := pK.keep hb
  replace pD := pD.keep hb
  replace pT := pT.keep hb
  replace hB := hB.trans (hb.mono hB.size)
  clear hb
  clear cc
  have ck := whole_c gK a cK cap k _ pK hx ux (by omega)
  rw [← HNK.out] at ck
  go_wp2_with fail
  refine (ck).mono ?_; rintro e w10 ⟨rfl, hb⟩
  replace hx := hx.below hb
  replace hy := hy.below hb
  replace hq := hq.below hb
  replace ht := ht.below hb
  replace hr := hr.below hb
  replace pK := pK.keep hb
  replace pD := pD.keep hb
  replace pT := pT.keep hb
  replace hB := hB.trans (hb.mono hB.size)
  clear hb
  clear ck
  have ck := whole_c gD a' cD cap' d _ pD hy uy (by omega)
  rw [← HND.out] at ck
  go_wp2_with fail
  refine (ck).mono ?_; rintro e w11 ⟨rfl, hb⟩
  replace hx := hx.below hb
  replace hy := hy.below hb
  replace hq := hq.below hb
  replace ht := ht.below hb
  replace hr := hr.below hb
  replace pK := pK.keep hb
  replace pD := pD.keep hb
  replace pT := pT.keep hb
  replace hB := hB.trans (hb.mono hB.size)
  clear hb
  clear ck
  have ck := whole_c gT aq cT capq t _ pT hq uq (by omega)
  rw [← HNT.out] at ck
  go_wp2_with fail
  refine (ck).mono ?_; rintro e w12 ⟨rfl, hb⟩
  replace hx := hx.below hb
  replace hy := hy.below hb
  replace hq := hq.below hb
  replace ht := ht.below hb
  replace hr := hr.below hb
  replace pK := pK.keep hb
  replace pD := pD.keep hb
  replace pT := pT.keep hb
  replace hB := hB.trans (hb.mono hB.size)
  clear hb
  clear ck
  clear hx hy hq ht hr
  go_wp2_with fail
  refine (turned_c gK cK k (marks 200) _ pK ux (by omega)).mono ?_; rintro e w13 ⟨z1, rfl, lz1, uz1, pZ, hg⟩
  replace pD := pD.grown hg (by simp; omega)
  replace pT := pT.grown hg (by simp; omega)
  replace hB := below_then hB hg gKw hB.size
  have Lz1 := Lib.hid lz1
  replace pK := pZ
  clear pZ hg lz1
  go_wp2_with fail
  refine (turned_c gD cD d (marks 200) _ pD uy (by omega)).mono ?_; rintro e w14 ⟨z2, rfl, lz2, uz2, pZ, hg⟩
  replace pK := pK.grown hg (by simp; omega)
  replace pT := pT.grown hg (by simp; omega)
  replace hB := below_then hB hg gDw hB.size
  have Lz2 := Lib.hid lz2
  replace pD := pZ
  clear pZ hg lz2
  have sK := pK.window
  have sD := pD.window
  have kz1 := Lz1.out
  have kz2 := Lz2.out
  have htz := ht0.below hB
  have hrz := hr0.below hB
  have cpK := fun W (hw : Below w14.heap.size w14 W) => copied5_c _ _ z1 W (sK.below hw) (by omega)
  rw [kz1] at cpK
  have cpD := fun W (hw : Below w14.heap.size w14 W) => copied5_c _ _ z2 W (sD.below hw) (by omega)
  rw [kz2] at cpD
  clear kz1 kz2
  go_wp2_with fail
  go_region_held3 (fun w' => True) (trivial)
    (first
      | (go_at_call_of 45 (Value.slice (some ⟨gK, 0, none⟩) k.length cK); refine (cpK _ (by first | exact (Below.refl _ _).drew | exact HD)).mono ?_; rintro e wk ⟨v1, rfl, nK1, hbK⟩; obtain ⟨aK1, cK1, rfl, sK1⟩ := nK1.sl; (have HK : Below w14.heap.size w14 wk := by first | exact (Below.refl w14.heap.size w14).drew.trans hbK | exact HD.trans (hbK.mono HD.size)))
      | (go_at_call_of 45 (Value.slice (some ⟨gD, 0, none⟩) d.length cD); refine (cpD _ (by first | exact (Below.refl _ _).drew | exact HK)).mono ?_; rintro e wd ⟨v2, rfl, nD1, hbD⟩; obtain ⟨aD1, cD1, rfl, sD1⟩ := nD1.sl; (have HD : Below w14.heap.size w14 wd := by first | exact (Below.refl w14.heap.size w14).drew.trans hbD | exact HK.trans (hbD.mono HK.size)))
      | (go_at_call 41; refine (rHmac_c h aK1 aD1 cK1 cD1 z1 z2 _ (by first | exact sK1 | exact sK1.below hbD) (by first | exact sD1 | exact sD1.below hbK) uz1 uz2 (by have := Lz1.out; have := Lz2.out; omega) (by first | exact hrz.below HD | exact hrz.below HK)).mono ?_; rintro e wn ⟨vN, rfl, nN, hbN⟩; obtain ⟨aN, cN, rfl, sN⟩ := nN.sl; (have HN : Below w14.heap.size w14 wn := by first | exact HD.trans (hbN.mono HD.size) | exact HK.trans (hbN.mono HK.size)); (have apN : ∀ b off, aN = some ⟨b, off, none⟩ → w14.heap.size ≤ b := fun b off hh => by first | exact Nat.le_trans HD.size (nN.far b off hh) | exact Nat.le_trans HK.size (nN.far b off hh))))
  all_goals (clear hbN nN)
  obtain ⟨zN, hzN⟩ : ∃ z, z = hmac h z1 z2 := ⟨_, rfl⟩
  rw [← hzN] at sN ⊢
  have uN : U8 zN := by rw [hzN]; exact hmac_u8 _ _ _
  have eN := Lib.hid hzN
  have gTlt2 := pT.lt
  have gDlt2 := pD.lt
  have gKlt2 := pK.lt
  have pKn := pK.keep HN
  have pDn := pD.keep HN
  have pTn := pT.keep HN
  have hBn := hB.trans (HN.mono hB.size)
  have apNT : ∀ b off, aN = some ⟨b, off, none⟩ → 0 < zN.length → b ≠ gT := fun b off hh _ e => by have := apN b off hh; omega
  have apND : ∀ b off, aN = some ⟨b, off, none⟩ → 0 < zN.length → b ≠ gD := fun b off hh _ e => by have := apN b off hh; omega
  obtain ⟨tl, htl⟩ : ∃ n, n = t.length := ⟨_, rfl⟩
  obtain ⟨nl, hnl⟩ : ∃ n, n = zN.length := ⟨_, rfl⟩
  rw [← htl] at hcT hz
  rw [← htl, ← hnl]
  have tl0 : t.length = tl := htl.symm
  have HTL := Lib.hid htl
  have HNL := Lib.hid hnl
  have nl64 : nl ≤ 64 := by
    have := shaSize_le h
    rw [hnl, hzN]
    by_cases hh : IsHash h
    · rw [hmac_len hh]; omega
    · rw [hmac_no hh]; simp
  have TL0 := Lib.hid tl0
  clear tl0 htl hnl hzN HN pK pD pT sK sD cpK cpD hB
  go_wp2_with fail
  go_loopw [15] (fun u wr => ∃ (i : Nat) (zt : List Int), i ≤ tl ∧ u = .int .i64 (i : Int) ∧ zt.length = tl ∧ U8 zt ∧ Pre wr gT .u8 5 cT (zt ++ marks 200) ∧ wn.grownBy wr (some gT)) (fun u _ => tl - (intOf u).toNat)
  case atStart => exact ⟨0, t, by omega, rfl, TL0.out, uq, pTn, rfl, rfl, rfl, Nat.le_refl _, fun _ _ _ => rfl⟩
  case round =>
    clear pTn
    obtain ⟨i, zt, hi, rfl, hzl, hu, hp, hg⟩ := hrel
    have HZL := Lib.hid hzl
    have LZ : Hid ((zt ++ marks 200).length = tl + 200) := Lib.hid (by rw [List.length_append, marks_len, hzl])
    clear hzl
    have sNr := sN.grown' hg (fun b off ha hp e => apNT b off ha hp (Option.some.inj e))
    by_cases hlt : i < tl
    · have hd1 : decide ((i : Int) < (tl : Int)) = true := decide_eq_true (by omega)
      have hin : (i : Int) < (tl : Int) := by omega
      by_cases hln : i < nl
      · have hd2 : decide ((i : Int) < (nl : Int)) = true := decide_eq_true (by omega)
        have hin2 : (i : Int) < (nl : Int) := by omega
        obtain ⟨b, off, eaa, hc⟩ := sNr.cells (by rw [← HNL.out]; omega)
        subst eaa
        have c0 := hc i (by rw [← HNL.out]; exact hln)
        have f0 := hp.free i
        obtain ⟨x, hx⟩ : ∃ x, x = nth zN i := ⟨_, rfl⟩
        have ux1 : 0 ≤ x ∧ x ≤ 255 := by rw [hx]; exact uN i
        rw [← hx] at c0
        have hp2 := hp.set i x
        rw [List.set_append_left _ _ (by rw [HZL.out]; exact hlt)] at hp2
        have hg2 := only_setCell (p := ⟨gT, i, none⟩) hg (.inl rfl) (.int .u8 x)
        have hl2 : Hid ((zt.set i x).length = tl) := Lib.hid (by rw [List.length_set, HZL.out])
        have hu2 := InR.set hu i ux1.1 ux1.2
        have cT2 := hp.cell i (by rw [LZ.out]; omega)
        have hitl : i < nT := by have := HNT.out; rw [List.length_append, marks_len, TL0.out] at this; omega
        have hitl2 : (i : Int) < (nT : Int) := by omega
        clear hc hx hp hg sNr
        go_wp2_with fail
        go_roundw
        case rel => exact ⟨i + 1, _, by omega, by go_num, hl2.out, hu2, hp2, hg2⟩
        case measure => simp [intOf]; omega
      · have hd2 : decide ((i : Int) < (nl : Int)) = false := decide_eq_false (by omega)
        have hin2 : ¬ (i : Int) < (nl : Int) := by omega
        have hin3 : decide (i < nl) = false := decide_eq_false hln
        have pKy := pKn.grown hg (by simp; omega)
        have pDy := pDn.grown hg (by simp; omega)
        have hBy := below_then hBn hg gTw hBn.size
        have hty := ht0.below hBy
        have hry := hr0.below hBy
        have sTy := hp.window
        have kz1 := Lz1.out
        have kz2 := Lz2.out
        have kz3 := HZL.out
        obtain ⟨kl, hkl⟩ : ∃ n, n = k.length := ⟨_, rfl⟩
        obtain ⟨dl, hdl⟩ : ∃ n, n = d.length := ⟨_, rfl⟩
        rw [← hkl] at kz1
        rw [← hdl] at kz2
        have klb : kl + dl + tl ≤ 1048576 := by omega
        obtain ⟨B3, hB3⟩ : ∃ b, b = decide (IsHash h ∧ hmac h z1 z2 = zt) := ⟨_, rfl⟩
        obtain ⟨B4, hB4⟩ : ∃ b, b = decide (z2 = zt) := ⟨_, rfl⟩
        have cpK := fun W (hw : Below wr.heap.size wr W) => copied5_c _ _ z1 W (pKy.window.below hw) (by omega)
        have cpD := fun W (hw : Below wr.heap.size wr W) => copied5_c _ _ z2 W (pDy.window.below hw) (by omega)
        have cpT := fun W (hw : Below wr.heap.size wr W) => copied5_c _ _ zt W (sTy.below hw) (by omega)
        have cRC := fun W a1 a2 a3 c1 c2 c3 (s1 : Sl .u8 W a1 c1 z1) (s2 : Sl .u8 W a2 c2 z2) (s3 : Sl .u8 W a3 c3 zt) (hw : Below wr.heap.size wr W) => rCheck_c h a1 a2 a3 c1 c2 c3 z1 z2 zt W s1 s2 s3 uz1 uz2 hu (by omega) (hry.below hw)
        have cRE := fun W a2 a3 c2 c3 (s2 : Sl .u8 W a2 c2 z2) (s3 : Sl .u8 W a3 c3 zt) => rEqual_c a2 a3 c2 c3 z2 zt W s2 s3 uz2 hu
        have cPC := fun W (hw : Below wr.heap.size wr W) => Check_c h (some ⟨gK, 0, none⟩) (some ⟨gD, 0, none⟩) (some ⟨gT, 0, none⟩) cK cD cT z1 z2 zt W (pKy.window.below hw) (pDy.window.below hw) (sTy.below hw) uz1 uz2 hu (by omega) (by omega) (hty.below hw)
        have cPE := fun W (hw : Below wr.heap.size wr W) => Equal_c (some ⟨gD, 0, none⟩) (some ⟨gT, 0, none⟩) cD cT z2 zt W (pDy.window.below hw) (sTy.below hw) uz2 hu
        have tops : shaTop ≤ gD := Nat.le_trans ht0.top gDw
        have topr := Nat.le_trans hr0.top gDw
        have cFo := fun W (hw : Below wr.heap.size wr W) => follows_c h (some ⟨gK, 0, none⟩) aN gD cK cD cN z1 z2 (marks 200) zN W (pKy.window.below hw) uz1 (pDy.keep hw) uz2 (sNr.below hw) eN.out (fun b off ha _ e => by cases ha; exact gKD e) (by omega) (hty.below hw) (hry.below hw) ⟨tops, topr⟩
        rw [kz1] at cpK
        rw [kz2] at cpD
        rw [kz3] at cpT
        rw [kz1, kz2, kz3, ← hB3] at cPC
        rw [kz2, kz3, ← hB4] at cPE
        rw [← hB3] at cRC
        rw [← hB4] at cRE
        rw [kz1, kz2, ← HNL.out] at cFo
        rw [← hkl] at hcK
        rw [← hdl] at hcD
        rw [← hkl, ← hdl]
        obtain ⟨wy, hwy⟩ : ∃ x : World, x = wr := ⟨_, rfl⟩
        subst hwy
        have l1 : Hid (z1.length = kl) := Lib.hid kz1
        have l2 : Hid (z2.length = dl) := Lib.hid kz2
        clear kz1 kz2 kz3 hkl hdl hB3 hB4 hp hg sNr pKn pDn hBn LZ
        go_wp2_with fail
        go_region_held3 (fun w' => True) (trivial)
          (first
            | (go_at_call_of 45 (Value.slice (some ⟨gK, 0, none⟩) kl cK); refine (cpK _ (by first | exact (Below.refl _ _).drew | exact HD | exact HT)).mono ?_; rintro e wk ⟨v1, rfl, nK1, hbK⟩; obtain ⟨aK1, cK1, rfl, sK1⟩ := nK1.sl; (have HK : Below wy.heap.size wy wk := by first | exact (Below.refl wy.heap.size wy).drew.trans hbK | exact HD.trans (hbK.mono HD.size) | exact HT.trans (hbK.mono HT.size)))
            | (go_at_call_of 45 (Value.slice (some ⟨gD, 0, none⟩) dl cD); refine (cpD _ (by first | exact (Below.refl _ _).drew | exact HK | exact HT)).mono ?_; rintro e wd ⟨v2, rfl, nD1, hbD⟩; obtain ⟨aD1, cD1, rfl, sD1⟩ := nD1.sl; (have HD : Below wy.heap.size wy wd := by first | exact (Below.refl wy.heap.size wy).drew.trans hbD | exact HK.trans (hbD.mono HK.size) | exact HT.trans (hbD.mono HT.size)))
            | (go_at_call_of 45 (Value.slice (some ⟨gT, 0, none⟩) tl cT); refine (cpT _ (by first | exact (Below.refl _ _).drew | exact HD | exact HK)).mono ?_; rintro e wt ⟨v3, rfl, nT1, hbT⟩; obtain ⟨aT1, cT1, rfl, sT1⟩ := nT1.sl; (have HT : Below wy.heap.size wy wt := by first | exact (Below.refl wy.heap.size wy).drew.trans hbT | exact HD.trans (hbT.mono HD.size) | exact HK.trans (hbT.mono HK.size)))
            | (go_at_call 48; refine (cRC _ aK1 aD1 aT1 cK1 cD1 cT1 (by first | exact sK1 | exact sK1.below hbD | exact sK1.below hbT | exact (sK1.below hbD).below hbT | exact (sK1.below hbT).below hbD) (by first | exact sD1 | exact sD1.below hbK | exact sD1.below hbT | exact (sD1.below hbK).below hbT | exact (sD1.below hbT).below hbK) (by first | exact sT1 | exact sT1.below hbK | exact sT1.below hbD | exact (sT1.below hbD).below hbK | exact (sT1.below hbK).below hbD) (by first | exact HT | exact HD | exact HK)).mono ?_; rintro e wn ⟨rfl, hbN⟩; (have HN : Below wy.heap.size wy wn := by first | exact HT.trans (hbN.mono HT.size) | exact HD.trans (hbN.mono HD.size) | exact HK.trans (hbN.mono HK.size))))
        all_goals (clear hbN)
        clear cRC cpK
        go_wp2_with fail
        go_region_held3 (fun w' => True) (trivial)
          (first
            | (go_at_call_of 45 (Value.slice (some ⟨gD, 0, none⟩) dl cD); refine (cpD _ (by first | exact HN.drew | exact JT)).mono ?_; rintro e wd' ⟨v4, rfl, nD2, hcD2⟩; obtain ⟨aD2, cD2, rfl, sD2⟩ := nD2.sl; (have JD : Below wy.heap.size wy wd' := by first | exact HN.drew.trans (hcD2.mono HN.size) | exact JT.trans (hcD2.mono JT.size)))
            | (go_at_call_of 45 (Value.slice (some ⟨gT, 0, none⟩) tl cT); refine (cpT _ (by first | exact HN.drew | exact JD)).mono ?_; rintro e wt' ⟨v5, rfl, nT2, hcT2⟩; obtain ⟨aT2, cT2, rfl, sT2⟩ := nT2.sl; (have JT : Below wy.heap.size wy wt' := by first | exact HN.drew.trans (hcT2.mono HN.size) | exact JD.trans (hcT2.mono JD.size)))
            | (go_at_call 49; refine (cRE _ aD2 aT2 cD2 cT2 (by first | exact sD2 | exact sD2.below hcT2) (by first | exact sT2 | exact sT2.below hcD2)).mono ?_; rintro e wm ⟨rfl, hbM⟩; (have HM : Below wy.heap.size wy wm := by first | exact JT.trans (hbM.mono JT.size) | exact JD.trans (hbM.mono JD.size))))
        all_goals (clear hbM)
        clear cRE cpD cpT
        have HM1 := HM.drew
        go_wp2_with fail
        go_still_tail 13, (by kernel_rfl)
        change wpList _ _ _ _ _ wm.drew
        go_wp2_with fail
        refine (cPC _ HM1).mono ?_; rintro e w21 ⟨rfl, hb1⟩
        have HM2 := (HM1.trans (hb1.mono HM1.size)).drew
        go_wp2_with fail
        go_still_tail 8, (by kernel_rfl)
        change wpList _ _ _ _ _ w21.drew
        go_wp2_with fail
        refine (cPE _ HM2).mono ?_; rintro e w22 ⟨rfl, hb2⟩
        have HM3 := HM2.trans (hb2.mono HM2.size)
        have b3 : (B3 == B3) = true := by simp
        have b4 : (B4 == B4) = true := by simp
        have cF := cFo w22.drew HM3.drew
        have fin := hBy.trans ((HM3.drew).mono hBy.size)
        clear hb1 hb2 cPC cPE cFo
        go_wp2_with fail
        go_region_held3 (fun w' => True) (trivial)
          (first
            | (go_at_call 50; refine cF.mono ?_; rintro e w23 ⟨rfl, hg23⟩))
        all_goals (have hfin := below_then fin hg23 gDw fin.size)
        go_wp2_with fail
        go_ret
        exact ⟨rfl, hfin⟩
    · have hd1 : decide ((i : Int) < (tl : Int)) = false := decide_eq_false (by omega)
      have hin2 : ¬ (i : Int) < (tl : Int) := by omega
      have hin3 : decide (i < tl) = false := decide_eq_false hlt
      have pKy := pKn.grown hg (by simp; omega)
      have pDy := pDn.grown hg (by simp; omega)
      have hBy := below_then hBn hg gTw hBn.size
      have hty := ht0.below hBy
      have hry := hr0.below hBy
      have sTy := hp.window
      have kz1 := Lz1.out
      have kz2 := Lz2.out
      have kz3 := HZL.out
      obtain ⟨kl, hkl⟩ : ∃ n, n = k.length := ⟨_, rfl⟩
      obtain ⟨dl, hdl⟩ : ∃ n, n = d.length := ⟨_, rfl⟩
      rw [← hkl] at kz1
      rw [← hdl] at kz2
      have klb : kl + dl + tl ≤ 1048576 := by omega
      obtain ⟨B3, hB3⟩ : ∃ b, b = decide (IsHash h ∧ hmac h z1 z2 = zt) := ⟨_, rfl⟩
      obtain ⟨B4, hB4⟩ : ∃ b, b = decide (z2 = zt) := ⟨_, rfl⟩
      have cpK := fun W (hw : Below wr.heap.size wr W) => copied5_c _ _ z1 W (pKy.window.below hw) (by omega)
      have cpD := fun W (hw : Below wr.heap.size wr W) => copied5_c _ _ z2 W (pDy.window.below hw) (by omega)
      have cpT := fun W (hw : Below wr.heap.size wr W) => copied5_c _ _ zt W (sTy.below hw) (by omega)
      have cRC := fun W a1 a2 a3 c1 c2 c3 (s1 : Sl .u8 W a1 c1 z1) (s2 : Sl .u8 W a2 c2 z2) (s3 : Sl .u8 W a3 c3 zt) (hw : Below wr.heap.size wr W) => rCheck_c h a1 a2 a3 c1 c2 c3 z1 z2 zt W s1 s2 s3 uz1 uz2 hu (by omega) (hry.below hw)
      have cRE := fun W a2 a3 c2 c3 (s2 : Sl .u8 W a2 c2 z2) (s3 : Sl .u8 W a3 c3 zt) => rEqual_c a2 a3 c2 c3 z2 zt W s2 s3 uz2 hu
      have cPC := fun W (hw : Below wr.heap.size wr W) => Check_c h (some ⟨gK, 0, none⟩) (some ⟨gD, 0, none⟩) (some ⟨gT, 0, none⟩) cK cD cT z1 z2 zt W (pKy.window.below hw) (pDy.window.below hw) (sTy.below hw) uz1 uz2 hu (by omega) (by omega) (hty.below hw)
      have cPE := fun W (hw : Below wr.heap.size wr W) => Equal_c (some ⟨gD, 0, none⟩) (some ⟨gT, 0, none⟩) cD cT z2 zt W (pDy.window.below hw) (sTy.below hw) uz2 hu
      have tops : shaTop ≤ gD := Nat.le_trans ht0.top gDw
      have topr := Nat.le_trans hr0.top gDw
      have cFo := fun W (hw : Below wr.heap.size wr W) => follows_c h (some ⟨gK, 0, none⟩) aN gD cK cD cN z1 z2 (marks 200) zN W (pKy.window.below hw) uz1 (pDy.keep hw) uz2 (sNr.below hw) eN.out (fun b off ha _ e => by cases ha; exact gKD e) (by omega) (hty.below hw) (hry.below hw) ⟨tops, topr⟩
      rw [kz1] at cpK
      rw [kz2] at cpD
      rw [kz3] at cpT
      rw [kz1, kz2, kz3, ← hB3] at cPC
      rw [kz2, kz3, ← hB4] at cPE
      rw [← hB3] at cRC
      rw [← hB4] at cRE
      rw [kz1, kz2, ← HNL.out] at cFo
      rw [← hkl] at hcK
      rw [← hdl] at hcD
      rw [← hkl, ← hdl]
      obtain ⟨wy, hwy⟩ : ∃ x : World, x = wr := ⟨_, rfl⟩
      subst hwy
      have l1 : Hid (z1.length = kl) := Lib.hid kz1
      have l2 : Hid (z2.length = dl) := Lib.hid kz2
      clear kz1 kz2 kz3 hkl hdl hB3 hB4 hp hg sNr pKn pDn hBn LZ
      go_wp2_with fail
      go_region_held3 (fun w' => True) (trivial)
        (first
          | (go_at_call_of 45 (Value.slice (some ⟨gK, 0, none⟩) kl cK); refine (cpK _ (by first | exact (Below.refl _ _).drew | exact HD | exact HT)).mono ?_; rintro e wk ⟨v1, rfl, nK1, hbK⟩; obtain ⟨aK1, cK1, rfl, sK1⟩ := nK1.sl; (have HK : Below wy.heap.size wy wk := by first | exact (Below.refl wy.heap.size wy).drew.trans hbK | exact HD.trans (hbK.mono HD.size) | exact HT.trans (hbK.mono HT.size)))
          | (go_at_call_of 45 (Value.slice (some ⟨gD, 0, none⟩) dl cD); refine (cpD _ (by first | exact (Below.refl _ _).drew | exact HK | exact HT)).mono ?_; rintro e wd ⟨v2, rfl, nD1, hbD⟩; obtain ⟨aD1, cD1, rfl, sD1⟩ := nD1.sl; (have HD : Below wy.heap.size wy wd := by first | exact (Below.refl wy.heap.size wy).drew.trans hbD | exact HK.trans (hbD.mono HK.size) | exact HT.trans (hbD.mono HT.size)))
          | (go_at_call_of 45 (Value.slice (some ⟨gT, 0, none⟩) tl cT); refine (cpT _ (by first | exact (Below.refl _ _).drew | exact HD | exact HK)).mono ?_; rintro e wt ⟨v3, rfl, nT1, hbT⟩; obtain ⟨aT1, cT1, rfl, sT1⟩ := nT1.sl; (have HT : Below wy.heap.size wy wt := by first | exact (Below.refl wy.heap.size wy).drew.trans hbT | exact HD.trans (hbT.mono HD.size) | exact HK.trans (hbT.mono HK.size)))
          | (go_at_call 48; refine (cRC _ aK1 aD1 aT1 cK1 cD1 cT1 (by first | exact sK1 | exact sK1.below hbD | exact sK1.below hbT | exact (sK1.below hbD).below hbT | exact (sK1.below hbT).below hbD) (by first | exact sD1 | exact sD1.below hbK | exact sD1.below hbT | exact (sD1.below hbK).below hbT | exact (sD1.below hbT).below hbK) (by first | exact sT1 | exact sT1.below hbK | exact sT1.below hbD | exact (sT1.below hbD).below hbK | exact (sT1.below hbK).below hbD) (by first | exact HT | exact HD | exact HK)).mono ?_; rintro e wn ⟨rfl, hbN⟩; (have HN : Below wy.heap.size wy wn := by first | exact HT.trans (hbN.mono HT.size) | exact HD.trans (hbN.mono HD.size) | exact HK.trans (hbN.mono HK.size))))
      all_goals (clear hbN)
      clear cRC cpK
      go_wp2_with fail
      go_region_held3 (fun w' => True) (trivial)
        (first
          | (go_at_call_of 45 (Value.slice (some ⟨gD, 0, none⟩) dl cD); refine (cpD _ (by first | exact HN.drew | exact JT)).mono ?_; rintro e wd' ⟨v4, rfl, nD2, hcD2⟩; obtain ⟨aD2, cD2, rfl, sD2⟩ := nD2.sl; (have JD : Below wy.heap.size wy wd' := by first | exact HN.drew.trans (hcD2.mono HN.size) | exact JT.trans (hcD2.mono JT.size)))
          | (go_at_call_of 45 (Value.slice (some ⟨gT, 0, none⟩) tl cT); refine (cpT _ (by first | exact HN.drew | exact JD)).mono ?_; rintro e wt' ⟨v5, rfl, nT2, hcT2⟩; obtain ⟨aT2, cT2, rfl, sT2⟩ := nT2.sl; (have JT : Below wy.heap.size wy wt' := by first | exact HN.drew.trans (hcT2.mono HN.size) | exact JD.trans (hcT2.mono JD.size)))
          | (go_at_call 49; refine (cRE _ aD2 aT2 cD2 cT2 (by first | exact sD2 | exact sD2.below hcT2) (by first | exact sT2 | exact sT2.below hcD2)).mono ?_; rintro e wm ⟨rfl, hbM⟩; (have HM : Below wy.heap.size wy wm := by first | exact JT.trans (hbM.mono JT.size) | exact JD.trans (hbM.mono JD.size))))
      all_goals (clear hbM)
      clear cRE cpD cpT
      have HM1 := HM.drew
      go_wp2_with fail
      go_still_tail 13, (by kernel_rfl)
      change wpList _ _ _ _ _ wm.drew
      go_wp2_with fail
      refine (cPC _ HM1).mono ?_; rintro e w21 ⟨rfl, hb1⟩
      have HM2 := (HM1.trans (hb1.mono HM1.size)).drew
      go_wp2_with fail
      go_still_tail 8, (by kernel_rfl)
      change wpList _ _ _ _ _ w21.drew
      go_wp2_with fail
      refine (cPE _ HM2).mono ?_; rintro e w22 ⟨rfl, hb2⟩
      have HM3 := HM2.trans (hb2.mono HM2.size)
      have b3 : (B3 == B3) = true := by simp
      have b4 : (B4 == B4) = true := by simp
      have cF := cFo w22.drew HM3.drew
      have fin := hBy.trans ((HM3.drew).mono hBy.size)
      clear hb1 hb2 cPC cPE cFo
      go_wp2_with fail
      go_region_held3 (fun w' => True) (trivial)
        (first
          | (go_at_call 50; refine cF.mono ?_; rintro e w23 ⟨rfl, hg23⟩))
      all_goals (have hfin := below_then fin hg23 gDw fin.size)
      go_wp2_with fail
      go_ret
      exact ⟨rfl, hfin⟩
end Go.Proofs.YtiiedgbdooamaaaDoor
