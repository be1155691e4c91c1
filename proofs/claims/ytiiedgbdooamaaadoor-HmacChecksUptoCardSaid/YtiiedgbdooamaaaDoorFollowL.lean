/- signetlaw5.follows by its contract. -/
import Derived.Test.YtiiedgbdooamaaaDoorMarkL
set_option linter.unusedVariables false
set_option linter.unusedSimpArgs false
namespace Go.Sg
open Go.RowKit
theorem bx_bx {x y : Int} (hx : 0 ≤ x ∧ x ≤ 255) : bx (bx x y) y = x := by
  rw [bx_eq (bx x y) y]
  have e : BitVec.ofInt 8 (bx x y) = BitVec.ofInt 8 x ^^^ BitVec.ofInt 8 y := by
    apply BitVec.eq_of_toNat_eq
    have h := bx_eq x y
    have := ofInt8_toNat (bx_rng x y)
    omega
  rw [e, BitVec.xor_assoc, BitVec.xor_self, BitVec.xor_zero]
  exact ofInt8_toNat hx
theorem set_set_back (zs : List Int) (y : Int) (h : 0 < zs.length) : (zs.set 0 y).set 0 (nth zs 0) = zs := by
  refine ext_nth _ _ (by simp) fun i hi => ?_
  have h1 : 0 < (zs.set 0 y).length := by simpa using h
  rw [nth_set _ _ _ _ h1]
  by_cases h0 : 0 = i
  · subst h0; rw [if_pos rfl]
  · rw [if_neg h0, nth_set _ _ _ _ h, if_neg h0]
end Go.Sg
namespace Go.Proofs.YtiiedgbdooamaaaDoor
open Go.RowKit Go.Sg

set_option maxHeartbeats 8000000 in
set_option maxRecDepth 20000 in
theorem follows_c (h : Int) (aK aN : Option Addr) (gD cK cD cN : Nat) (z1 z2 y2 zN : List Int) (w : World) (sK : Sl .u8 w aK cK z1) (u1 : U8 z1) (pD : Pre w gD .u8 5 cD (z2 ++ y2)) (u2 : U8 z2) (sN : Sl .u8 w aN cN zN)
    (hN : zN = hmac h z1 z2) (apK : ∀ b off, aK = some ⟨b, off, none⟩ → 0 < z1.length → b ≠ gD) (hl : z1.length + z2.length ≤ 1048576) (ht : ShaTabs w) (hr : RefTabs w) (top : shaTop ≤ gD ∧ top5 6 7 5 3 4 ≤ gD) :
    Calls Tryd.prog 50 #[.int .i64 h, .slice aK z1.length cK, .slice (some ⟨gD, 0, none⟩) z2.length cD, .slice aN zN.length cN] w fun e w' => e = .returned (.bool true) ∧ w.grownBy w' (some gD) := by
  have uN : U8 zN := by rw [hN]; exact hmac_u8 _ _ _
  obtain ⟨n, hn⟩ : ∃ n, n = zN.length := ⟨_, rfl⟩
  have n64 : n ≤ 64 := by
    have := shaSize_le h
    rw [hn, hN]
    by_cases hh : IsHash h
    · rw [hmac_len hh]; omega
    · rw [hmac_no hh]; simp
  have nh : IsHash h ↔ 0 < n := by
    rw [hn, hN]
    by_cases hh : IsHash h
    · rw [hmac_len hh]; exact ⟨fun _ => hh.size_le.2.1, fun _ => hh⟩
    · rw [hmac_no hh]; exact ⟨fun e => absurd e hh, fun e => by simp at e⟩
  rw [← hn]
  have HNL := Lib.hid hn
  have HN := Lib.hid hN
  have NH := Lib.hid nh
  have ck := fun W b c (zs : List Int) (sx : Sl .u8 W aK cK z1) (sy : Sl .u8 W (some ⟨gD, 0, none⟩) cD z2) (sz : Sl .u8 W b c zs) (uz : U8 zs) (t : ShaTabs W) => Check_c h aK (some ⟨gD, 0, none⟩) b cK cD c z1 z2 zs W sx sy sz u1 u2 uz (by omega) (by omega) t
  rw [← hN] at ck
  clear hn hN nh
  go_enter Tryd.func50, Tryd.ntmps50
  go_wp2_with (at_make; refine wpList_make_blk _ rfl _ _ 29 rfl 5 .u8 1 Tryd.underlying29 info8s n _ _ rfl rfl rfl rfl (by omega) (by omega) ?_)
  intro w1 hk1 hs1 hb
  obtain ⟨G, hG⟩ : ∃ G, G = w.heap.size := ⟨_, rfl⟩
  rw [← hG] at hk1 ⊢
  have gDG : gD < G := by have := pD.lt; omega
  have HG := Lib.hid hG
  have sK1 := sK.below hb
  have pD1 := pD.keep hb
  have sN1 := sN.below hb
  have ht1 := ht.below hb
  have hr1 := hr.below hb
  have apNG := sN.apart (Nat.le_of_eq hG.symm)
  have apKG := sK.apart (Nat.le_of_eq hG.symm)
  have hB := hb
  have sO := hk1.sl_full (by simp; omega)
  have uO : U8 (List.replicate n 0) := InR.zeros (by omega) _
  obtain ⟨O, hO⟩ : ∃ O, O = List.replicate n (0 : Int) := ⟨_, rfl⟩
  rw [← hO] at hk1 sO uO
  have OL : Hid (O.length = n) := Lib.hid (by rw [hO]; simp)
  have c1 := ck w1 _ _ O sK1 pD1.window sO uO ht1
  rw [OL.out] at c1 sO
  obtain ⟨b1, hb1⟩ : ∃ b, b = decide (IsHash h ∧ zN = O) := ⟨_, rfl⟩
  rw [← hb1] at c1
  have HO := Lib.hid hO
  clear hO hs1 hb hG sK pD sN ht hr
  go_wp2_with fail
  refine c1.mono ?_; rintro e w2 ⟨rfl, hb⟩
  have sK2 := sK1.below hb
  have pD2 := pD1.keep hb
  have sN2 := sN1.below hb
  have sO2 := sO.below hb
  have hk2 := hk1.below hb hk1.lt
  have ht2 := ht1.below hb
  have hr2 := hr1.below hb
  have hB2 := hB.trans (hb.mono hB.size)
  clear c1 hb sK1 pD1 sN1 sO hk1 ht1 hr1 hB
  by_cases hh : IsHash h
  · have hp : 0 < n := NH.out.1 hh
    have cm := same5_c _ _ _ _ _ _ _ sO2 sN2 uO uN
    rw [← HNL.out, OL.out] at cm
    have eb : decide (O = zN) = b1 := by
      rw [hb1]
      exact decide_eq_decide.2 ⟨fun e => ⟨hh, e.symm⟩, fun e => e.2.symm⟩
    rw [eb] at cm
    have d0 : decide ((0 : Int) < (n : Int)) = true := decide_eq_true (by omega)
    have hbb : (b1 != b1) = false := by simp
    have d9 : ((n : Int) == 0) = false := beq_false_of_ne (by omega)
    clear eb hb1
    go_wp2_with fail
    refine cm.mono ?_; rintro e w3 ⟨rfl, hb⟩
    have sK3 := sK2.below hb
    have pD3 := pD2.keep hb
    have sN3 := sN2.below hb
    have hk3 := hk2.below hb hk2.lt
    have ht3 := ht2.below hb
    have hr3 := hr2.below hb
    have hB3 := hB2.trans (hb.mono hB2.size)
    have hk30 : Blk w3 G .u8 5 (zN.take 0 ++ O.drop 0) := by simpa using hk3
    clear cm hb sK2 pD2 sN2 sO2 hk2 ht2 hr2 hB2 hk3 hbb
    go_wp2_with fail
    go_loopw [11] (fun t wr => ∃ i : Nat, i ≤ n ∧ t = .int .i64 (i : Int) ∧ Blk wr G .u8 5 (zN.take i ++ O.drop i) ∧ w3.grownBy wr (some G)) (fun t _ => n - (intOf t).toNat)
    case atStart => exact ⟨0, by omega, rfl, hk30, rfl, rfl, rfl, Nat.le_refl _, fun _ _ _ => rfl⟩
    case round =>
      clear hk30
      obtain ⟨i, hi, rfl, hk, hg⟩ := hrel
      have sNr := sN3.grown' hg (fun b off ha hp e => apNG b off ha hp (Option.some.inj e))
      by_cases hlt : i < n
      · obtain ⟨b, off, eaa, hc⟩ := sNr.cells (by rw [← HNL.out]; omega)
        have hap := apNG b off eaa (by rw [← HNL.out]; omega)
        subst eaa
        have c0 := hc i (by rw [← HNL.out]; omega)
        have f0 := hk.free i
        have lL : (zN.take i ++ O.drop i).length = n := by rw [List.length_append, List.length_take, List.length_drop, OL.out, ← HNL.out]; omega
        have c2 := hk.cell i (by rw [lL]; exact hlt)
        have hs2 := hk.set i (nth zN i)
        have fin : Hid ((zN.take i ++ O.drop i).set i (nth zN i) = zN.take (i + 1) ++ O.drop (i + 1)) := Lib.hid (by
          rw [List.set_append_right _ _ (by rw [List.length_take, ← HNL.out]; omega), List.length_take, ← HNL.out, Nat.min_eq_left hi, Nat.sub_self, drop_nth O i (by rw [OL.out]; exact hlt), List.set_cons_zero, take_succ_nth zN i (by rw [← HNL.out]; exact hlt), List.append_assoc]
          rfl)
        rw [fin.out] at hs2
        have hg2 := only_setCell (p := ⟨G, i, none⟩) hg (.inl rfl) (.int .u8 (nth zN i))
        obtain ⟨x, hx⟩ : ∃ x, x = nth zN i := ⟨_, rfl⟩
        rw [← hx] at c0 hs2 hg2
        have hd1 : decide ((i : Int) < (n : Int)) = true := decide_eq_true (by omega)
        have hin : (i : Int) < (n : Int) := by omega
        clear hx hc lL hk hg sNr
        go_wp2_with fail
        go_roundw
        case rel => exact ⟨i + 1, by omega, by go_num, hs2, hg2⟩
        case measure => simp [intOf]; omega
      · obtain rfl : n = i := by omega
        have hd1 : decide ((n : Int) < (n : Int)) = false := by simp
        rw [List.take_of_length_le (by rw [← HNL.out]; exact Nat.le_refl _), List.drop_of_length_le (by rw [OL.out]; exact Nat.le_refl _), List.append_nil] at hk
        have hGw : w.heap.size ≤ G := by rw [HG.out]; exact Nat.le_refl _
        have hBr : Below w.heap.size w wr := below_then hB3 hg hGw hB3.size
        have sKr := sK3.grown' hg (fun b off ha hp e => apKG b off ha hp (Option.some.inj e))
        have pDr := pD3.grown hg (by simp; omega)
        have htr := ht3.grown hg (Nat.le_trans top.1 (Nat.le_of_lt gDG))
        have hrr := hr3.grown hg (Nat.le_trans top.2 (Nat.le_of_lt gDG))
        have sO := hk.sl_full (by rw [← HNL.out]; omega)
        have c2 := ck wr _ _ zN sKr pDr.window sO uN htr
        rw [show decide (IsHash h ∧ zN = zN) = true from decide_eq_true ⟨hh, rfl⟩, ← HNL.out] at c2
        rw [← HNL.out] at sO
        clear sNr hB3 sK3 pD3 sN3 ht3 hr3 hg
        go_wp2_with fail
        refine c2.mono ?_; rintro e w4 ⟨rfl, hb⟩
        have sK4 := sKr.below hb
        have pD4 := pDr.keep hb
        have hk4 := hk.below hb hk.lt
        have ht4 := htr.below hb
        have hr4 := hrr.below hb
        have hB4 := hBr.trans (hb.mono hBr.size)
        clear c2 sKr pDr hk htr hrr hBr hb sO
        have c0 := hk4.cell 0 (by rw [← HNL.out]; exact hp)
        have f0 := hk4.free 0
        have ux := uN 0
        obtain ⟨x, hx⟩ : ∃ x, x = nth zN 0 := ⟨_, rfl⟩
        have HX := Lib.hid hx
        rw [← hx] at c0 ux
        have bxe : bits .xor .u8 x 1 = bx x 1 := rfl
        have hk5 := hk4.set 0 (bx x 1)
        have g5 := grownBy_set w4 ⟨G, 0, none⟩ (.int .u8 (bx x 1))
        obtain ⟨z5, hz5⟩ : ∃ z, z = zN.set 0 (bx x 1) := ⟨_, rfl⟩
        rw [← hz5] at hk5
        have l5 : Hid (z5.length = n) := Lib.hid (by rw [hz5, List.length_set, ← HNL.out])
        have u5 : U8 z5 := by rw [hz5]; exact InR.set uN 0 (bx_rng _ _).1 (bx_rng _ _).2
        have ne5 : zN ≠ z5 := fun e => by
          have h1 := congrArg (fun z => nth z 0) e
          simp only [hz5, nth_set _ _ _ _ (show 0 < zN.length by rw [← HNL.out]; exact hp), if_true] at h1
          rw [← hx] at h1
          have := (bx_self_iff ux (by omega : (0 : Int) ≤ 1 ∧ (1 : Int) ≤ 255)).1 h1.symm
          omega
        have back : z5.set 0 x = zN := by rw [hz5, hx]; exact set_set_back zN _ (by rw [← HNL.out]; exact hp)
        have n5 : nth z5 0 = bx x 1 := by rw [hz5, nth_set _ _ _ _ (by rw [← HNL.out]; exact hp), if_pos rfl]
        have BACK := Lib.hid back
        have hp' : (0 : Int) < (n : Int) := by omega
        obtain ⟨wS, hwS⟩ : ∃ q, q = w4.setCell ⟨G, 0, none⟩ (.int .u8 (bx x 1)) := ⟨_, rfl⟩
        rw [← hwS] at hk5 g5
        simp only at g5
        have sK5 := sK4.grown' g5 (fun b off ha hp e => apKG b off ha hp (Option.some.inj e))
        have pD5 := pD4.grown g5 (by simp; omega)
        have ht5 := ht4.grown g5 (Nat.le_trans top.1 (Nat.le_of_lt gDG))
        have hr5 := hr4.grown g5 (Nat.le_trans top.2 (Nat.le_of_lt gDG))
        have hB5 : Below w.heap.size w wS := below_then hB4 g5 hGw hB4.size
        have sO5 := hk5.sl_full (by rw [l5.out]; omega)
        have c5 := ck wS _ _ z5 sK5 pD5.window sO5 u5 ht5
        rw [show decide (IsHash h ∧ zN = z5) = false from decide_eq_false fun e => ne5 e.2, l5.out] at c5
        have HWS := Lib.hid hwS
        clear hx hz5 back ne5 sK4 pD4 hk4 ht4 hr4 hB4 g5 sO5 hwS
        go_wp2_with fail
        rw [← HWS.out]
        refine c5.mono ?_; rintro e w6 ⟨rfl, hb⟩
        have sK6 := sK5.below hb
        have pD6 := pD5.keep hb
        have hk6 := hk5.below hb hk5.lt
        have ht6 := ht5.below hb
        have hr6 := hr5.below hb
        have hB6 := hB5.trans (hb.mono hB5.size)
        clear c5 sK5 pD5 hk5 ht5 hr5 hB5 hb c0 f0 bxe
        have c0 := hk6.cell 0 (by rw [l5.out]; exact hp)
        have f0 := hk6.free 0
        rw [n5] at c0
        have bx2 : bits .xor .u8 (bx x 1) 1 = x := bx_bx ux
        have hk7 := hk6.set 0 x
        rw [BACK.out] at hk7
        have g7 := grownBy_set w6 ⟨G, 0, none⟩ (.int .u8 x)
        obtain ⟨wT, hwT⟩ : ∃ y, y = w6.setCell ⟨G, 0, none⟩ (.int .u8 x) := ⟨_, rfl⟩
        rw [← hwT] at hk7 g7
        simp only at g7
        have sK7 := sK6.grown' g7 (fun b off ha hp e => apKG b off ha hp (Option.some.inj e))
        have pD7 := pD6.grown g7 (by simp; omega)
        have ht7 := ht6.grown g7 (Nat.le_trans top.1 (Nat.le_of_lt gDG))
        have hr7 := hr6.grown g7 (Nat.le_trans top.2 (Nat.le_of_lt gDG))
        have hB7 : Below w.heap.size w wT := below_then hB6 g7 hGw hB6.size
        have sO7 := hk7.sl_full (by rw [← HNL.out]; omega)
        have c7 := ck wT _ _ zN sK7 pD7.window sO7 uN ht7
        rw [show decide (IsHash h ∧ zN = zN) = true from decide_eq_true ⟨hh, rfl⟩, ← HNL.out] at c7
        have HWT := Lib.hid hwT
        clear sK6 pD6 hk6 ht6 hr6 hB6 g7 sO7 hwT n5
        go_wp2_with fail
        rw [← HWT.out]
        refine c7.mono ?_; rintro e w8 ⟨rfl, hb⟩
        have sK8 := sK7.below hb
        have pD8 := pD7.keep hb
        have hk8 := hk7.below hb hk7.lt
        have ht8 := ht7.below hb
        have hr8 := hr7.below hb
        have hB8 := hB7.trans (hb.mono hB7.size)
        clear c7 sK7 pD7 hk7 ht7 hr7 hB7 hb c0 f0 bx2
        go_wp2_with fail
        refine (turned_c gD cD z2 y2 w8 pD8 u2 (by omega)).mono ?_; rintro e w9 ⟨zs, rfl, lzs, uzs, pD9, g9⟩
        have sK9 := sK8.grown' g9 (fun b off ha hp e => apK b off ha hp (Option.some.inj e))
        have hk9 := hk8.grown g9 (by simp; omega)
        have ht9 := ht8.grown g9 top.1
        have hr9 := hr8.grown g9 top.2
        have g90 : w.grownBy w9 (some gD) := only_trans (only_of_below hB8 (some gD)) g9
        have sD9 := pD9.window
        have sO9 := hk9.sl_full (by rw [← HNL.out]; omega)
        obtain ⟨l2, hl2⟩ : ∃ l, l = z2.length := ⟨_, rfl⟩
        rw [← hl2]
        have LZS : Hid (zs.length = l2) := Lib.hid (by rw [lzs, hl2])
        have hl2b : l2 ≤ 1048576 := by omega
        obtain ⟨Bz, hBz⟩ : ∃ b, b = decide (IsHash h ∧ hmac h z1 zs = zN) := ⟨_, rfl⟩
        have c9 := Check_c h aK (some ⟨gD, 0, none⟩) _ cK cD _ z1 zs zN w9 sK9 sD9 sO9 u1 uzs uN (by omega) (by omega) ht9
        rw [← hBz, LZS.out, ← HNL.out] at c9
        rw [← HNL.out] at sO9
        have HBz := Lib.hid hBz
        clear hBz lzs hl2 sK8 pD8 hk8 ht8 hr8 hB8 g9 pD9 hk9
        go_wp2_with fail
        refine c9.mono ?_; rintro e wa ⟨rfl, hb⟩
        have sKa := sK9.below hb
        have sDa := sD9.below hb
        have sOa := sO9.below hb
        have hra := hr9.below hb
        have ga : w.grownBy wa (some gD) := only_below g90 hb
        clear c9 hb sK9 sD9 sO9 ht9 hr9 g90
        go_wp2_with fail
        refine (copied5_c aK cK z1 wa sKa (by omega)).mono ?_; rintro e wb ⟨v, rfl, nv, hb⟩
        obtain ⟨aX, cX, rfl, sX⟩ := nv.sl
        have sDb := sDa.below hb
        have sOb := sOa.below hb
        have hrb := hra.below hb
        have gb : w.grownBy wb (some gD) := only_below ga hb
        have cz := copied5_c _ _ zs wb sDb (by rw [LZS.out]; omega)
        rw [LZS.out] at cz
        clear nv hb sKa sDa sOa hra ga
        go_wp2_with fail
        refine cz.mono ?_; rintro e wc ⟨v, rfl, nv, hb⟩
        obtain ⟨aY, cY, eY, sY⟩ := nv.sl
        subst eY
        have sXc := sX.below hb
        have sOc := sOb.below hb
        have hrc := hrb.below hb
        have gc : w.grownBy wc (some gD) := only_below gb hb
        rw [LZS.out]
        have cw := copied5_c _ _ zN wc sOc (by rw [← HNL.out]; omega)
        rw [← HNL.out] at cw
        clear nv hb sX sDb sOb hrb gb cz
        go_wp2_with fail
        refine cw.mono ?_; rintro e wd ⟨v, rfl, nv, hb⟩
        obtain ⟨aZ, cZ, eZ, sZ⟩ := nv.sl
        subst eZ
        have sXd := sXc.below hb
        have sYd := sY.below hb
        have hrd := hrc.below hb
        have gd : w.grownBy wd (some gD) := only_below gc hb
        rw [← HNL.out]
        have cf := rCheck_c h aX aY aZ cX cY cZ z1 zs zN wd sXd sYd sZ u1 uzs uN (by rw [LZS.out]; omega) hrd
        rw [← HBz.out, LZS.out, ← HNL.out] at cf
        have hbz : (Bz == Bz) = true := by simp
        clear nv hb sXc sY hrc gc cw
        go_wp2_with fail
        refine cf.mono ?_; rintro e we ⟨rfl, hb⟩
        have ge : w.grownBy we (some gD) := only_below gd hb
        clear cf hb
        go_wp2_with fail
        go_ret
        exact ⟨rfl, ge⟩
  · have hn0 : n = 0 := by
      rcases Nat.eq_zero_or_pos n with e | e
      · exact e
      · exact absurd (NH.out.2 e) hh
    subst hn0
    have hb1f : b1 = false := by rw [hb1]; exact decide_eq_false fun e => hh e.1
    subst hb1f
    have e0 : zN = [] := List.eq_nil_of_length_eq_zero HNL.out.symm
    have e1 : O = [] := List.eq_nil_of_length_eq_zero OL.out
    have E0 := Lib.hid e0
    clear hb1 e0 e1
    go_wp2_with fail
    go_loopw [11] (fun t wr => t = .int .i64 0 ∧ wr = w2) (fun t _ => 0)
    case atStart => exact ⟨rfl, rfl⟩
    case round =>
      obtain ⟨rfl, hww⟩ := hrel
      subst hww
      have c2 := ck wr _ _ O sK2 pD2.window sO2 uO ht2
      rw [show decide (IsHash h ∧ zN = O) = false from decide_eq_false fun e => hh e.1, OL.out] at c2
      go_wp2_with fail
      refine c2.mono ?_; rintro e w4 ⟨rfl, hb⟩
      have hB4 := hB2.trans (hb.mono hB2.size)
      have gf : w.grownBy w4 (some gD) := only_of_below hB4 _
      clear c2 hb
      go_wp2_with fail
      go_ret
      exact ⟨rfl, gf⟩
end Go.Proofs.YtiiedgbdooamaaaDoor
