/- signetlaw4.ShaSums, its walk. -/
import Derived.Test.YtiiedgbdooamaaaDoorRoomL
set_option linter.unusedVariables false
set_option linter.unusedSimpArgs false
namespace Go.Proofs.YtiiedgbdooamaaaDoor
open Go.RowKit Go.Sg

set_option maxHeartbeats 16000000 in
set_option maxRecDepth 100000 in
theorem ShaSums_c (h : Int) (A : Option Addr) (cap : Nat) (ps : List Part) (w : World) (hr : Rows_ w A ps) (hz : (flat ps).length + ps.length ≤ 1048576) (ht : ShaTabs w) (hq : RefTabs w) :
    Calls Tryd.prog 4 #[.int .i64 h, .slice A ps.length cap] w (TruePost w) := by
  have cRooms := rooms_c A cap ps w hr (by omega) (by omega)
  have cWhole := fun W (r : Rows_ W A ps) => whole4_c A cap ps W r (by omega) (by omega)
  obtain ⟨n, hn⟩ : ∃ n, n = ps.length := ⟨_, rfl⟩
  have HN := Lib.hid hn
  have hfl : Hid ((List.range n).flatMap (px ps) = flat ps) := Lib.hid (by rw [hn, flat_px ps ps.length (Nat.le_refl _), List.take_length])
  unfold RoomsPost at cRooms
  rw [← hn] at hz cRooms cWhole ⊢
  have pxl : ∀ j, j < n → (px ps j).length ≤ (flat ps).length := fun j hj => px_le_flat ps j (by rw [← HN.out]; exact hj)
  have pxu : ∀ j, j < n → U8 (px ps j) := fun j hj => by
    have hj' : j < ps.length := by rw [← HN.out]; exact hj
    rw [px_lt ps j hj']
    exact hr.u8 _ (List.getElem_mem hj')
  obtain ⟨F, hF⟩ : ∃ F, F = flat ps := ⟨_, rfl⟩
  have HF := Lib.hid hF
  rw [← hF] at hz pxl hfl cWhole
  have uF : U8 F := by rw [← hfl.out]; exact flat_u8 _ _ pxu
  clear hn hF
  go_enter Tryd.func4, Tryd.ntmps4
  go_wp2_with fail
  refine cRooms.mono ?_; rintro e w1 ⟨v, G, rfl, rm, hb⟩
  have hB := hb
  have hr1 := hr.below hb
  have ht1 := ht.below hb
  have hq1 := hq.below hb
  obtain ⟨aV, cV, rfl⟩ := rm.row.sl
  obtain ⟨nv, hnv⟩ : ∃ m, m = ((List.range n).map (roomVal G (px ps))).length := ⟨_, rfl⟩
  rw [← hnv] at rm ⊢
  obtain rfl : nv = n := by rw [hnv]; simp
  have rows1 := rm.rows (fun j hj => by have := pxl j hj; omega) pxu
  have ss := ShaSum_c h aV cV (roomParts G (px ps) nv) w1 rows1 (by rw [roomParts_len]; omega) (by rw [roomParts_flat, hfl.out]; omega) ht1
  rw [roomParts_len, roomParts_flat, hfl.out] at ss
  clear hb hnv rows1 cRooms
  go_wp2_with fail
  refine ss.mono ?_; rintro e w2 ⟨v2, rfl, n2, hb⟩
  obtain ⟨aB, cB, rfl, sB⟩ := n2.sl
  obtain ⟨zB, hzB⟩ : ∃ z, z = sha h F := ⟨_, rfl⟩
  rw [← hzB] at sB ⊢
  have uB : U8 zB := by rw [hzB]; exact sha_u8 _ _
  have eB := Lib.hid hzB
  have rm2 := rm.keep hb
  have hr2 := hr1.below hb
  have ht2 := ht1.below hb
  have hq2 := hq1.below hb
  have hB2 := hB.trans (hb.mono hB.size)
  clear n2 hzB hb ss rm hr1 ht1 hq1 hB
  go_wp2_with fail
  refine (cWhole w2 hr2).mono ?_; rintro e w3 ⟨v3, rfl, n3, hb⟩
  obtain ⟨aF, cF, rfl, sF⟩ := n3.sl
  have sB3 := sB.below hb
  have rm3 := rm2.keep hb
  have hr3 := hr2.below hb
  have ht3 := ht2.below hb
  have hq3 := hq2.below hb
  have hB3 := hB2.trans (hb.mono hB2.size)
  clear n3 hb sB rm2 hr2 ht2 hq2 hB2
  go_wp2_with fail
  refine (rSum_c h aF cF F w3 sF uF (by omega) hq3).mono ?_; rintro e w4 ⟨v4, rfl, n4, hb⟩
  obtain ⟨aW, cW, rfl, sW⟩ := n4.sl
  obtain ⟨zW, hzW⟩ : ∃ z, z = sha h F := ⟨_, rfl⟩
  rw [← hzW] at sW ⊢
  have uW : U8 zW := by rw [hzW]; exact sha_u8 _ _
  have eBW : Hid (zB = zW) := Lib.hid (by rw [hzW, eB.out])
  have sB4 := sB3.below hb
  have rm4 := rm3.keep hb
  have hr4 := hr3.below hb
  have ht4 := ht3.below hb
  have hq4 := hq3.below hb
  have hB4 := hB3.trans (hb.mono hB3.size)
  clear n4 hb sB3 sF rm3 hr3 ht3 hq3 hB3 hzW
  have cm := same4_c _ _ _ _ _ _ _ sB4 sW uB uW
  rw [show decide (zB = zW) = true from decide_eq_true eBW.out] at cm
  go_wp2_with fail
  refine cm.mono ?_; rintro e w5 ⟨rfl, hb⟩
  have rm5 := rm4.keep hb
  have hr5 := hr4.below hb
  have ht5 := ht4.below hb
  have hq5 := hq4.below hb
  have hB5 := hB4.trans (hb.mono hB4.size)
  clear cm hb sB4 sW rm4 hr4 ht4 hq4 hB4
  obtain ⟨sz, hsz⟩ : ∃ s, s = shaSize h := ⟨_, rfl⟩
  obtain ⟨bk, hbk⟩ : ∃ s, s = shaBlock h := ⟨_, rfl⟩
  have c1 := Size_c h w5
  have c2 := rSize_c h w5
  have c3 := Block_c h w5
  have c4 := rBlock_c h w5
  rw [← hsz] at c1 c2
  rw [← hbk] at c3 c4
  have q1 : ((sz : Int) != (sz : Int)) = false := by simp
  have q2 : ((bk : Int) != (bk : Int)) = false := by simp
  clear hsz hbk
  go_wp2_with fail
  refine c1.mono ?_; rintro e w' ⟨rfl, rfl⟩
  go_wp2_with fail
  refine c2.mono ?_; rintro e w' ⟨rfl, rfl⟩
  go_wp2_with fail
  refine c3.mono ?_; rintro e w' ⟨rfl, rfl⟩
  go_wp2_with fail
  refine c4.mono ?_; rintro e w' ⟨rfl, rfl⟩
  clear c1 c2 c3 c4
  have hBw : w.heap.size ≤ w5.heap.size := hB5.size
  go_wp2_with fail
  clear q1 q2
  go_loopw [7] (fun t wr => ∃ (i : Nat) (Z : Nat → List Int), i ≤ nv ∧ t = .int .i64 (i : Int) ∧ (∀ j, j < nv → (Z j).length = (px ps j).length ∧ U8 (Z j)) ∧ (∀ j, i ≤ j → j < nv → Z j = px ps j) ∧ Rooms w.heap.size 5 29 wr (.slice aV nv cV) nv G Z ∧ Below w.heap.size w wr) (fun t _ => nv - (intOf t).toNat)
  case atStart => exact ⟨0, px ps, by omega, rfl, fun j hj => ⟨rfl, pxu j hj⟩, fun j _ _ => rfl, rm5, hB5⟩
  case round =>
    clear rm5 hr5 ht5 hq5 hB5 hBw
    obtain ⟨i, Z, hi, rfl, hZ, hZp, rm, hb⟩ := hrel
    have hbs := hb.size
    have hrr := hr.below hb
    by_cases hlt : i < nv
    · have hip : i < ps.length := by rw [← HN.out]; exact hlt
      obtain ⟨b, off, eaa, hc⟩ := hrr.at_ (by omega)
      subst eaa
      have ck := hc i hip
      have sp := hrr.sl _ (List.getElem_mem hip)
      have up := hrr.u8 _ (List.getElem_mem hip)
      have hpx := px_lt ps i hip
      have hle := pxl i hlt
      have hZi := hZp i (Nat.le_refl _) hlt
      rw [hpx] at hZi hle
      obtain ⟨p, hp⟩ : ∃ p, p = ps[i] := ⟨_, rfl⟩
      rw [← hp] at ck sp up hZi hle hpx
      rw [Part.val] at ck
      obtain ⟨g, hgV, hgB, hgc⟩ := rm.row.cell i (by simpa using hlt)
      have hgc2 : wr.cell? ⟨g, i, none⟩ = some (.slice (some ⟨G i, 0, none⟩) p.xs.length (p.xs.length + 9)) := by
        rw [hgc]
        simp [roomVal, hZi]
      have bk := rm.blk i hlt
      rw [hZi] at bk
      have cs := spared_c (G i) p.a p.cap p.xs wr.drew (bk.below (Below.refl _ _).drew bk.lt) (sp.below (Below.refl _ _).drew) up (by omega)
      have hd1 : decide ((i : Int) < (nv : Int)) = true := decide_eq_true (by omega)
      have hin : (i : Int) < (nv : Int) := by omega
      have HZI := Lib.hid hZi
      have HPX := Lib.hid hpx
      obtain ⟨pl, hpl⟩ : ∃ l, l = p.xs.length := ⟨_, rfl⟩
      have HPL := Lib.hid hpl
      rw [← hpl] at ck hgc2 cs hle
      subst hgV
      clear hc hip hp hpl hZi hpx hgc bk sp up
      go_wp2_with fail
      go_still_tail 8, (by kernel_rfl)
      change wpList _ _ _ _ _ wr.drew
      go_wp2_with fail
      refine cs.mono ?_; rintro e w6 ⟨rfl, hb6⟩
      have rm6 := rm.drew.keep hb6
      have hB6 := hb.drew.trans (hb6.mono hb.drew.size)
      have hgc6 := (hb6.cell (p := ⟨g, i, none⟩) (World.block_lt_of_cell? wr _ hgc2)).trans hgc2
      have Z0 : ∀ j, j < nv → (Z j).length = (px ps j).length ∧ U8 (Z j) := hZ
      clear cs hb6 rm hb hbs ck hgc2 hZ
      go_wp2_with fail
      go_loopw [8] (fun t wr => ∃ (k : Nat) (Y : Nat → List Int), k ≤ pl ∧ t = .int .i64 (k : Int) ∧ (∀ j, j < nv → (Y j).length = (px ps j).length ∧ U8 (Y j)) ∧ (∀ j, i + 1 ≤ j → j < nv → Y j = px ps j) ∧ Rooms w.heap.size 5 29 wr (.slice (some ⟨g, 0, none⟩) nv cV) nv G Y ∧ Below w.heap.size w wr) (fun t _ => pl - (intOf t).toNat)
      case atStart => exact ⟨0, Z, by omega, rfl, Z0, fun j h1 h2 => hZp j (by omega) h2, rm6, hB6⟩
      case round =>
        clear rm6 hB6 Z0 hZp hgc6
        obtain ⟨k, Y, hk, rfl, hY, hYp, rm, hb⟩ := hrel
        have YL : Hid ((Y i).length = pl) := Lib.hid (by rw [(hY i hlt).1, HPX.out, HPL.out])
        obtain ⟨g', hgV, hgB', hgc⟩ := rm.row.cell i (by simpa using hlt)
        cases hgV
        have hgc2 : wr.cell? ⟨g, i, none⟩ = some (.slice (some ⟨G i, 0, none⟩) pl (pl + 9)) := by
          rw [hgc]
          simp [roomVal, YL.out]
        clear hgc
        by_cases hlk : k < pl
        · have bk := rm.blk i hlt
          have c0 := bk.cell k (by rw [List.length_append, YL.out]; omega)
          rw [nth_append_left _ _ _ (by rw [YL.out]; exact hlk)] at c0
          have f0 := bk.free k
          have ux := (hY i hlt).2 k
          obtain ⟨x, hx⟩ : ∃ x, x = nth (Y i) k := ⟨_, rfl⟩
          rw [← hx] at c0 ux
          obtain ⟨y, hy⟩ : ∃ y, y = 255 - x := ⟨_, rfl⟩
          have hyw : IntKind.u8.wrap (255 - x) = y := by rw [IntKind.wrap_u8', hy]; omega
          have hym : (255 - x) % 256 = y := by rw [hy]; omega
          have y0 : 0 ≤ y ∧ y ≤ 255 := by omega
          have rm2 := (rm.set i hlt k (by rw [YL.out]; exact hlk) y).drew
          have hb2 := (hb.setCell (p := ⟨G i, k, none⟩) (rm.far i hlt) (.int .u8 y)).drew
          have hY2 : ∀ j, j < nv → ((fun j => if j = i then (Y i).set k y else Y j) j).length = (px ps j).length ∧ U8 ((fun j => if j = i then (Y i).set k y else Y j) j) := by
            intro j hj
            by_cases e : j = i
            · subst e
              simp only [if_true, List.length_set]
              exact ⟨(hY j hj).1, InR.set (hY j hj).2 k y0.1 y0.2⟩
            · simp only [e, if_false]
              exact hY j hj
          have hYp2 : ∀ j, i + 1 ≤ j → j < nv → (fun j => if j = i then (Y i).set k y else Y j) j = px ps j := by
            intro j h1 h2
            have e : j ≠ i := by omega
            simp only [e, if_false]
            exact hYp j h1 h2
          have hkl : (k : Int) < (pl : Int) := by omega
          have hd2 : decide ((k : Int) < (pl : Int)) = true := decide_eq_true hkl
          have hin : (i : Int) < (nv : Int) := by omega
          clear bk hx rm hb hY hYp
          go_wp2_with fail
          clear hy
          go_still_tail 14, (by kernel_rfl)
          change wpList _ _ _ _ _ wr.drew
          clear hgc2 hyw hym
          go_wp2_with fail
          go_roundw
          case rel => exact ⟨k + 1, _, by omega, by go_num, hY2, hYp2, rm2, hb2⟩
          case measure => simp [intOf]; omega
        · obtain rfl : pl = k := by omega
          have hkl : ¬ (pl : Int) < (pl : Int) := by omega
          have hin : (i : Int) < (nv : Int) := by omega
          go_wp2_with fail
          go_roundw
          case rel => exact ⟨i + 1, Y, by omega, by go_num, hY, hYp, rm, hb⟩
          case measure => simp [intOf]; omega
    · obtain rfl : nv = i := by omega
      have hd1 : decide ((nv : Int) < (nv : Int)) = false := by simp
      have htr := ht.below hb
      have hqr := hq.below hb
      have lenF : ((List.range nv).flatMap Z).length = F.length := by rw [← hfl.out]; exact flat_len_eq _ _ _ fun j hj => (hZ j hj).1
      have lZ : ∀ j, j < nv → (Z j).length ≤ 140737488350000 := fun j hj => by rw [(hZ j hj).1]; have := pxl j hj; omega
      have rowsZ := rm.rows lZ fun j hj => (hZ j hj).2
      have cw := whole4_c aV cV (roomParts G Z nv) wr rowsZ (by rw [roomParts_len]; omega) (by rw [roomParts_flat, lenF]; omega)
      rw [roomParts_len, roomParts_flat] at cw
      obtain ⟨Q, hQ⟩ : ∃ Q, Q = (List.range nv).flatMap Z := ⟨_, rfl⟩
      rw [← hQ] at cw lenF
      have uQ : U8 Q := by rw [hQ]; exact flat_u8 _ _ fun j hj => (hZ j hj).2
      have LQ := Lib.hid lenF
      have ssQ := fun W (hw : Below wr.heap.size wr W) => ShaSum_c h aV cV (roomParts G Z nv) W ((rm.keep hw).rows lZ fun j hj => (hZ j hj).2) (by rw [roomParts_len]; omega) (by rw [roomParts_flat, ← hQ, lenF]; omega) (htr.below hw)
      rw [roomParts_len, roomParts_flat, ← hQ] at ssQ
      clear rowsZ hQ lenF hrr hZp lZ
      go_wp2_with fail
      refine cw.mono ?_; rintro e wa ⟨v6, rfl, n6, hba⟩
      obtain ⟨aQ, cQ, rfl, sQ⟩ := n6.sl
      clear n6 cw
      go_wp2_with fail
      refine (rSum_c h aQ cQ Q wa sQ uQ (by rw [LQ.out]; omega) (hqr.below hba)).mono ?_; rintro e wb ⟨v7, rfl, n7, hbb⟩
      obtain ⟨aR, cR, rfl, sR⟩ := n7.sl
      obtain ⟨zR, hzR⟩ : ∃ z, z = sha h Q := ⟨_, rfl⟩
      rw [← hzR] at sR ⊢
      have uR : U8 zR := by rw [hzR]; exact sha_u8 _ _
      have eR := Lib.hid hzR
      have hwb := hba.trans (hbb.mono hba.size)
      clear n7 hzR hbb
      go_wp2_with fail
      refine (ssQ wb hwb).mono ?_; rintro e wc ⟨v8, rfl, n8, hbc⟩
      obtain ⟨aS, cS, rfl, sS⟩ := n8.sl
      obtain ⟨zS, hzS⟩ : ∃ z, z = sha h Q := ⟨_, rfl⟩
      rw [← hzS] at sS ⊢
      have uS : U8 zS := by rw [hzS]; exact sha_u8 _ _
      have eS : Hid (zS = zR) := Lib.hid (by rw [hzS, eR.out])
      have sRc := sR.below hbc
      have hwc := hwb.trans (hbc.mono hwb.size)
      clear n8 hzS hbc ssQ
      go_wp2_with fail
      refine (same4_c _ _ _ _ _ _ _ sS sRc uS uR).mono ?_; rintro e wd ⟨rfl, hbd⟩
      rw [show decide (zS = zR) = true from decide_eq_true eS.out]
      have hfin := hb.trans ((hwc.trans (hbd.mono hwc.size)).mono hbs)
      go_wp2_with fail
      go_ret
      exact ⟨rfl, hfin⟩
end Go.Proofs.YtiiedgbdooamaaaDoor
