/- signetref4: long by its contract, where the length takes a block more. (Printed by gen_shak.py out of ShaJ.) -/
import Derived.Test.YtnlmkikaaifcmaaDoorShaK
set_option linter.unusedVariables false
set_option linter.unusedSimpArgs false
namespace Go.Proofs.YtnlmkikaaifcmaaDoor
open Go.RowKit Go.Sg

set_option maxHeartbeats 16000000 in
set_option maxRecDepth 100000 in
theorem long_more (s : S8 64) (a : Option Addr) (cap : Nat) (bs : List Int) (w : World) (hx : Sl .u8 w a cap bs) (ub : U8 bs) (hlen : bs.length ≤ 140737488354000) (hL : long128 bs.length = true) (ht : RefTabs w) :
    Calls Tryd.prog 18 #[.slice a bs.length cap, .agg (s.list.map v64).toArray] w (BytesPost (sum64 s bs) w) := by
  have HPAD := Lib.hid (padded128_more bs (by omega) hL)
  have hlr := of_decide_eq_true hL
  clear hL
  go_enter Tryd.func18, Tryd.ntmps18
  go_wp2_with (with_reducible refine wpList_box_rw rfl _ _ rfl (s.list.map v64) rfl ?_)
  intro w2 hk2 hs2 hb2
  have hk3 : Wds .u64 w2 w.heap.size 43 s.list := hk2
  have hx2 := hx.below hb2
  have HS2 : Hid (w2.heap.size = w.heap.size + 1) := Lib.hid hs2
  have hgH : w.heap.size < w2.heap.size := by have := HS2.out; omega
  clear hk2 hs2 hx
  go_wp2_with fail
  refine (rfilled_c a cap bs 128 w2 hx2 (by omega) (.inr rfl)).mono ?_; rintro e w3 ⟨v3, rfl, hv3, hb3⟩
  obtain ⟨a3, c3, rfl, hsl3⟩ := hv3.sl
  have far3 := hv3.far
  have hk4 : Wds .u64 w3 w.heap.size 43 s.list := hk3.below hb3 hgH
  have ht3 : RefTabs w3 := (ht.below hb2).below hb3
  have hB3 := hb2.trans (hb3.mono hb2.size)
  have d1 : decide ((112 : Int) ≤ (bs.length : Int) % 128) = true := decide_eq_true (by omega)
  have d2 : decide ((bs.length : Int) % 128 < 120) = true := decide_eq_true (by omega)
  obtain ⟨P, hP⟩ : ∃ P, P = padded 128 8 bs := ⟨_, rfl⟩
  rw [← hP] at hsl3 ⊢
  obtain ⟨m, hm⟩ : ∃ m, P.length = m + 8 := ⟨P.length - 8, by
    rw [hP, padded_len]; omega⟩
  have hmb : m + 8 ≤ 140737488354300 := by rw [← hm, hP, padded_len]; have := gap_le2 (.inr rfl : (128 : Nat) = 64 ∨ 128 = 128) bs.length; omega
  have hmc := hsl3.le
  rw [hm] at hmc ⊢
  have hcm := hsl3.max
  have H0 : Hid (P.take m ++ List.replicate 128 0 ++ P.drop m = padded 128 16 bs) := Lib.hid (by rw [HPAD.out, ← hP, hm]; simp)
  have hA := fun W => cut_h (P := Tryd.prog) W 29 5 Tryd.underlying29 size8 a3 (m + 8) c3 m (by omega) (m : Int) rfl
  have hC := fun W => cut_l (P := Tryd.prog) W 29 5 Tryd.underlying29 size8 a3 (m + 8) c3 m (by omega) (m : Int) rfl
  have em : ((m + 8 : Nat) : Int) - 8 = (m : Int) := by omega
  have hsC := hsl3.cut m (by rw [hm]; omega)
  obtain ⟨a4, ha4⟩ : ∃ x, x = (if c3 = m then a3 else a3.map (·.add m)) := ⟨_, rfl⟩
  obtain ⟨e8, he8⟩ : ∃ x, x = m + 8 - m := ⟨_, rfl⟩
  rw [← ha4, ← he8] at hC
  rw [← ha4] at hsC
  have HE8 : Hid (e8 = 8) := Lib.hid (by omega)
  clear ha4 he8
  have cA : (if c3 = 0 then a3 else a3.map (·.add 0)) = a3 := by
    rw [if_neg (by omega)]
    cases a3 with
    | none => rfl
    | some ad =>
      obtain ⟨b, off, sp⟩ := ad
      cases sp <;> simp [Addr.add]
  rw [cA] at hA
  have HM := Lib.hid hm
  have hml : (P.take m).length = m := by rw [List.length_take, hm]; omega
  have HML := Lib.hid hml
  clear hP hm hml hv3 hx2 hb2 hk3 cA HPAD
  go_wp2_with (at_builtin; refine wpList_append_new _ rfl _ _ 29 rfl w3.heap.size 5 .u8 1 Tryd.underlying29 info8s _ [] rfl (New.nil _ _ _ _) _ _ m (P.take m) rfl HML.out.symm (hsl3.take m).cells (by rw [HML.out]; simp; omega) (by rw [HML.out]; simp; omega) (Nat.le_refl _) ?_)
  intro v5 w5 hv5 hg5 _
  have hb5 : Below w3.heap.size w3 w5 := (Below.refl _ _).grown hg5 (Nat.le_refl _) fun g hg => by simp [Value.ownBlock] at hg
  have hv50 : New w3.heap.size .u8 5 w5 v5 (P.take m ++ List.replicate 0 0) := by simpa using hv5
  clear hg5 hv5 hA
  go_wp2_with fail
  go_loopw [6, 7] (fun v t wr => ∃ i : Nat, i ≤ 128 ∧ t = .int .i64 (i : Int) ∧ New w3.heap.size .u8 5 wr v (P.take m ++ List.replicate i 0) ∧ Below w3.heap.size w3 wr)
    (fun _ t _ => 128 - (intOf t).toNat)
  case atStart => exact ⟨0, by omega, rfl, hv50, hb5⟩
  case round =>
    clear hv50 hb5
    obtain ⟨i, hi, rfl, hv, hb⟩ := hrel
    have hbs := hb.size
    obtain ⟨l, hl1⟩ : ∃ l, l = P.take m ++ List.replicate i (0 : Int) := ⟨_, rfl⟩
    rw [← hl1] at hv
    have HL : Hid (l.length = m + i) := Lib.hid (by rw [hl1, List.length_append, HML.out, List.length_replicate])
    by_cases hlt : i < 128
    · have fin : Hid (l ++ [0] = P.take m ++ List.replicate (i + 1) 0) := Lib.hid (by rw [hl1, List.replicate_succ', List.append_assoc])
      have hd : decide ((i : Int) < 128) = true := decide_eq_true (by omega)
      clear hl1
      go_wp2_with (at_builtin; refine wpList_append_new _ rfl _ _ 29 rfl w3.heap.size 5 .u8 1 Tryd.underlying29 info8s _ _ rfl (hv.alloc _) _ _ 1 [0] rfl rfl (cells_one _ _ _ _ _ rfl) (by have := HL.out; simp; omega) (by have := HL.out; simp; omega) (by simp; omega) ?_)
      intro v' w' hv' hg' _
      have hlt1 := fun g hg => (hv.lt g hg).1
      have hb' : Below w3.heap.size w3 w' := (hb.alloc hbs _).grown hg' (by simp; omega) hlt1
      rw [fin.out] at hv'
      clear hv hg' hb
      go_wp2_with fail
      go_roundw
      case rel => exact ⟨i + 1, by omega, by go_num, hv', hb'⟩
      case measure => simp [intOf]; omega
    · obtain rfl : i = 128 := by omega
      rw [show ((128 : Nat) : Int) = 128 from rfl]
      have HL1 := Lib.hid hl1
      have sP := hsC.below hb
      have dl : (P.drop m).length = 8 := by rw [List.length_drop, HM.out]; omega
      have DL := Lib.hid dl
      clear hl1 dl
      go_wp2_with (at_builtin; refine wpList_append_new _ rfl _ _ 29 rfl w3.heap.size 5 .u8 1 Tryd.underlying29 info8s _ _ rfl hv _ _ _ (P.drop m) rfl (by rw [DL.out]; exact HE8.out) sP.cells (by rw [HL.out, DL.out]; omega) (by rw [HL.out, DL.out]; omega) hbs ?_)
      intro v6 wz hv6 hg6 _
      have hlt1 := fun g hg => (hv.lt g hg).1
      have hb6 : Below w3.heap.size w3 wz := hb.grown hg6 hbs hlt1
      rw [HL1.out, H0.out] at hv6
      have hBz := hB3.trans (hb6.mono hB3.size)
      have htz : RefTabs wz := ht3.below hb6
      have hg3 : w.heap.size < w3.heap.size := by have := hb3.size; omega
      have hkz : Wds .u64 wz w.heap.size 43 s.list := hk4.below hb6 hg3
      have hz6 := hb6.size
      have hbb : w.heap.size < wz.heap.size := by omega
      obtain ⟨az, cz, rfl, hslz⟩ := hv6.sl
      have farz : ∀ b off, az = some ⟨b, off, none⟩ → w2.heap.size ≤ b := fun b off ha => by
        have := hv6.far b off ha
        have := hb3.size
        omega
      clear hv6 hg6 hb6 hv hb sP hC hsC hsl3 far3 hk4 ht3 hB3 HM HML HL HL1 DL H0
      obtain ⟨all, hall⟩ : ∃ all, all = padded 128 16 bs := ⟨_, rfl⟩
      rw [← hall] at hslz ⊢
      obtain ⟨n, hn⟩ : ∃ n, n = all.length := ⟨_, rfl⟩
      rw [← hn]
      have HN := Lib.hid hn
      have HALL := Lib.hid hall
      have ual : U8 all := by rw [hall]; exact ub.append (by omega) (tail_u8 _ _ _)
      obtain ⟨Q, hQ⟩ : ∃ Q, n = 128 * Q := ⟨n / 128, by
        rw [hn, hall, padded_len]
        unfold gap
        omega⟩
      have HQ := Lib.hid hQ
      have hnb : n ≤ 140737488354500 := by rw [hn, hall, padded_len]; have := gap_le (.inr ⟨rfl, rfl⟩ : ((128 : Nat) = 64 ∧ (16 : Nat) = 8) ∨ (128 = 128 ∧ 16 = 16)) bs.length; omega
      have hb3w := hb3
      clear hb3 hn hall hQ
      go_wp2_with fail
      go_loopw [8] (fun t wr => ∃ q : Nat, q ≤ Q ∧ t = .int .i64 (128 * (q : Int)) ∧ Wds .u64 wr w.heap.size 43 (blocks64 K512 s all q).list ∧ wz.grownBy wr (some w.heap.size))
        (fun t _ => n - (intOf t).toNat)
      case atStart => exact ⟨0, by omega, rfl, hkz, rfl, rfl, rfl, Nat.le_refl _, fun _ _ _ => rfl⟩
      case round =>
        clear hkz
        obtain ⟨q, hq, rfl, hH, hg⟩ := hrel
        have hg3 : w.heap.size < wz.heap.size := hbb
        have hgs := hg.size
        have hsl : Sl .u8 wr az cz all := hslz.grown' hg (fun b off ha hp e => by have := farz b off ha; cases e; omega)
        have htr : RefTabs wr := by
          have := ht.top
          exact htz.grown hg (by omega)
        by_cases hlt : q < Q
        · have hq1 : 128 * (q : Int) < (n : Int) := by have := HQ.out; omega
          have hd1 : decide (128 * (q : Int) < (n : Int)) = true := decide_eq_true hq1
          have hq2 : 128 * q + 128 ≤ n := by have := HQ.out; omega
          go_wp2_with (refine wpList_alloc_rw rfl 52 rfl (List.replicate 80 (.int .u64 0)) 80 zero80w ?_)
          intro w4 hk5 hs5 hb5
          have hW0 : Wds .u64 w4 wr.heap.size 52 (List.replicate 80 (0 : BitVec 64)) := hk5
          have hH4 : Wds .u64 w4 w.heap.size 43 (blocks64 K512 s all q).list := hH.below hb5 (by omega)
          have hsl4 := hsl.below hb5
          have hg4 := only_below hg hb5
          have htr4 := htr.below hb5
          obtain ⟨gW, hgW⟩ : ∃ gW, gW = wr.heap.size := ⟨_, rfl⟩
          rw [← hgW] at hW0 ⊢
          have hne1 : w.heap.size ≠ gW := by omega
          have hgW3 : wz.heap.size ≤ gW := by omega
          obtain ⟨M, hM⟩ : ∃ M, M = words64 all (128 * q) 16 := ⟨_, rfl⟩
          have HM := Lib.hid hM
          have HMl : Hid (M.length = 16) := Lib.hid (by rw [hM, words64_len])
          have far4 : ∀ b off, az = some ⟨b, off, none⟩ → 0 < all.length → b ≠ gW := fun b off ha hp e => by
            have := (hsl.cells hp)
            obtain ⟨b', o', ha', hc⟩ := this
            rw [ha] at ha'
            cases ha'
            have := World.block_lt_of_cell? wr _ (hc 0 hp)
            simp at this
            omega
          clear hk5 hs5 hb5 hgW hM hg hH hsl htr
          go_wp2_with fail
          go_loopw [10] (fun t wr => ∃ (i : Nat) (W : List (BitVec 64)), i ≤ 80 ∧ t = .int .i64 (i : Int) ∧ W.length = 80 ∧ W.take i = schedL M i ∧ (i ≤ 16 → W.drop i = List.replicate (80 - i) 0) ∧ Wds .u64 wr gW 52 W ∧ Wds .u64 wr w.heap.size 43 (blocks64 K512 s all q).list ∧ Sl .u8 wr az cz all ∧ RefTabs wr ∧ wz.grownBy wr (some w.heap.size))
            (fun t _ => 80 - (intOf t).toNat)
          case atStart => exact ⟨0, _, by omega, rfl, by simp, rfl, fun _ => rfl, hW0, hH4, hsl4, htr4, hg4⟩
          case round =>
            clear hW0 hH4 hsl4 htr4 hg4
            obtain ⟨i, W, hi, rfl, hWl, hWt, hWd, hW, hH, hsl, htr, hg⟩ := hrel
            have HWl := Lib.hid hWl
            have HWt := Lib.hid hWt
            clear hWl hWt
            have HWd := Lib.hid hWd
            clear hWd
            by_cases hi16 : i < 16
            · obtain ⟨p, hp⟩ : ∃ p, p = 128 * q + 8 * i := ⟨_, rfl⟩
              have e0 : 128 * (q : Int) + 8 * (i : Int) = (p : Int) := by omega
              have hd16 : decide ((i : Int) < 16) = true := decide_eq_true (by omega)
              have hi80 : (i : Int) < 80 := by omega
              have hpn : p + 8 ≤ n := by omega
              have ML : Hid ((M.take i).length = i) := Lib.hid (by rw [List.length_take, HMl.out]; omega)
              have hW0 : Wds .u64 wr gW 52 (M.take i ++ part64 all p 0 :: List.replicate (79 - i) 0) := by
                have e1 := HWt.out
                have e2 := HWd.out (by omega)
                rw [schedL, if_pos (by omega)] at e1
                rw [show 80 - i = (79 - i) + 1 by omega, List.replicate_succ] at e2
                rw [← List.take_append_drop i W, e1, e2] at hW
                exact hW
              have HM2 : Hid (M.take (i + 1) = M.take i ++ [part64 all p 8]) := Lib.hid (by
                rw [List.take_succ_eq_append_getElem (by rw [HMl.out]; omega)]
                simp only [HM.out, words64, List.getElem_map, List.getElem_range, hp])
              obtain ⟨wo, hwo⟩ : ∃ wo : World, wo = wr := ⟨_, rfl⟩
              subst hwo
              have HP := Lib.hid hp
              clear hW hp
              go_wp2_with fail
              go_loopw [11] (fun t wr => ∃ (j : Nat), j ≤ 8 ∧ t = .int .i64 (j : Int) ∧ Wds .u64 wr gW 52 (M.take i ++ part64 all p j :: List.replicate (79 - i) 0) ∧ Wds .u64 wr w.heap.size 43 (blocks64 K512 s all q).list ∧ Sl .u8 wr az cz all ∧ RefTabs wr ∧ wz.grownBy wr (some w.heap.size))
                (fun t _ => 8 - (intOf t).toNat)
              case atStart => exact ⟨0, by omega, rfl, hW0, hH, hsl, htr, hg⟩
              case round =>
                clear hW0 hH hsl htr hg
                obtain ⟨j, hj, rfl, hW, hH, hsl, htr, hg⟩ := hrel
                by_cases hjl : j < 8
                · obtain ⟨pj, hpj⟩ : ∃ x, x = p + j := ⟨_, rfl⟩
                  obtain ⟨b, off, rfl, hcc⟩ := hsl.cells (by have := HN.out; omega)
                  have c0 := hcc pj (by have := HN.out; omega)
                  have b0 := ual pj
                  have e1 : (p : Int) + (j : Int) = (pj : Int) := by omega
                  have hword : _ = wi (part64 all p (j + 1)) := byte_or2 (part64 all p j) (ual (p + j))
                  rw [← hpj] at hword
                  have m0 : pj < n := by omega
                  have n0 : (pj : Int) < (n : Int) := by omega
                  have w0 : IntKind.i64.wrap (pj : Int) = (pj : Int) := IntWalk.i64_in _ (by omega)
                  have w0' : IntKind.i64.wrap (8 * (i : Int)) = 8 * (i : Int) := IntWalk.i64_in _ (by omega)
                  have w1' : IntKind.i64.wrap (128 * (q : Int) + 8 * (i : Int)) = (p : Int) := by rw [e0]; exact IntWalk.i64_in _ (by omega)
                  have w2' : IntKind.i64.wrap ((p : Int) + (j : Int)) = (pj : Int) := by rw [e1]; exact w0
                  have cw := hW.cell i (by rw [List.length_append, ML.out, List.length_cons, List.length_replicate]; omega)
                  rw [getD_mid _ _ _ _ _ ML.out.symm] at cw
                  have fw := hW.free i
                  have hi80' : i < 80 := by omega
                  have hW' := (hW.set i (part64 all p (j + 1))).drew
                  rw [set_mid _ _ _ _ _ ML.out.symm] at hW'
                  have hH' := (hH.other hne1 i (.int .u64 (wi (part64 all p (j + 1))))).drew
                  have HHg := Lib.hid hg
                  have HHs := Lib.hid hsl
                  have HHt := Lib.hid htr
                  have hd8 : decide ((j : Int) < 8) = true := decide_eq_true (by omega)
                  clear hpj hcc b0 hW hH hg hsl htr e1
                  have HE0 := Lib.hid e0
                  clear e0
                  go_wp2_with fail
                  go_still_tail 17, (by kernel_rfl)
                  change wpList _ _ _ _ _ wr.drew
                  clear hword c0 m0 n0 w0 w0' w1' w2'
                  go_wp2_with fail
                  have hg' := only_drew (only_setCell (p := ⟨gW, i, none⟩) HHg.out (.inr hgW3) (.int .u64 (wi (part64 all p (j + 1)))))
                  have hsl' : Sl .u8 ((wr.setCell ⟨gW, i, none⟩ (.int .u64 (wi (part64 all p (j + 1))))).drew) (some ⟨b, off, none⟩) cz all := (HHs.out.grown' (grownBy_set wr ⟨gW, i, none⟩ (.int .u64 (wi (part64 all p (j + 1))))) (fun b' off' ha hp' e => far4 b' off' ha hp' (Option.some.inj e))).drewN 1
                  have htr' : RefTabs ((wr.setCell ⟨gW, i, none⟩ (.int .u64 (wi (part64 all p (j + 1))))).drew) := (HHt.out.grown (only_drew (grownBy_set wr ⟨gW, i, none⟩ (.int .u64 (wi (part64 all p (j + 1)))))) (by have := ht.top; simp only; omega))
                  go_roundw
                  case rel => exact ⟨j + 1, by omega, by go_num, hW', hH', hsl', htr', hg'⟩
                  case measure => simp [intOf]; omega
                · obtain rfl : j = 8 := by omega
                  rw [show ((8 : Nat) : Int) = 8 from rfl]
                  have hWf : Wds .u64 wr gW 52 (M.take (i + 1) ++ List.replicate (80 - (i + 1)) 0) := by
                    rw [HM2.out, List.append_assoc, show 80 - (i + 1) = 79 - i by omega]; exact hW
                  have HL1 : Hid ((M.take (i + 1)).length = i + 1) := Lib.hid (by rw [List.length_take, HMl.out]; omega)
                  clear hW
                  go_wp2_with fail
                  go_roundw
                  case rel => exact ⟨i + 1, _, by omega, by go_num, by rw [List.length_append, HL1.out, List.length_replicate]; omega, by rw [List.take_left' HL1.out, schedL, if_pos (by omega)], fun _ => by rw [List.drop_left' HL1.out], hWf, hH, hsl, htr, hg⟩
                  case measure => simp [intOf]; omega
            · by_cases hlt : i < 80
              · obtain ⟨p15, h15⟩ : ∃ p, i = p + 15 := ⟨i - 15, by omega⟩
                obtain ⟨p2, h2⟩ : ∃ p, i = p + 2 := ⟨i - 2, by omega⟩
                obtain ⟨p16, h16⟩ : ∃ p, i = p + 16 := ⟨i - 16, by omega⟩
                obtain ⟨p7, h7⟩ : ∃ p, i = p + 7 := ⟨i - 7, by omega⟩
                have q15 : p15 < 80 := by omega
                have q2 : p2 < 80 := by omega
                have q16 : p16 < 80 := by omega
                have q7 : p7 < 80 := by omega
                have r15 : (p15 : Int) < 80 := by omega
                have r2 : (p2 : Int) < 80 := by omega
                have r16 : (p16 : Int) < 80 := by omega
                have r7 : (p7 : Int) < 80 := by omega
                have e16 : IntKind.i64.wrap (p16 : Int) = (p16 : Int) := IntWalk.i64_in _ (by omega)
                have e7 : IntKind.i64.wrap (p7 : Int) = (p7 : Int) := IntWalk.i64_in _ (by omega)
                have f15 : ((i : Int) - 15) = (p15 : Int) := by omega
                have f2 : ((i : Int) - 2) = (p2 : Int) := by omega
                have f16 : ((i : Int) - 16) = (p16 : Int) := by omega
                have f7 : ((i : Int) - 7) = (p7 : Int) := by omega
                have c15 := hW.cell p15 (by rw [HWl.out]; omega)
                have c2 := hW.cell p2 (by rw [HWl.out]; omega)
                have c16 := hW.cell p16 (by rw [HWl.out]; omega)
                have c7 := hW.cell p7 (by rw [HWl.out]; omega)
                have ci := hW.cell i (by rw [HWl.out]; omega)
                have fi := hW.free i
                have hi80 : (i : Int) < 80 := by omega
                have hd16 : decide ((i : Int) < 16) = false := decide_eq_false (by omega)
                obtain ⟨X, hX⟩ : ∃ X, X = W.getD p15 0 := ⟨_, rfl⟩
                obtain ⟨Y, hY⟩ : ∃ Y, Y = W.getD p2 0 := ⟨_, rfl⟩
                obtain ⟨A, hA⟩ : ∃ A, A = W.getD p16 0 := ⟨_, rfl⟩
                obtain ⟨B, hB⟩ : ∃ B, B = W.getD p7 0 := ⟨_, rfl⟩
                rw [← hX] at c15
                rw [← hY] at c2
                rw [← hA] at c16
                rw [← hB] at c7
                obtain ⟨Z, hZ⟩ : ∃ Z, Z = A + (turn X 1 63 ^^^ turn X 8 56 ^^^ X >>> 7) + B + (turn Y 19 45 ^^^ turn Y 61 3 ^^^ Y >>> 6) := ⟨_, rfl⟩
                have fin : Hid ((W.set i Z).take (i + 1) = schedL M (i + 1)) := Lib.hid (by
                  have hl : (W.take i).length = i := by simp [HWl.out]; omega
                  have hT : W.take i = sched64 M (i - 16) := by
                    have := HWt.out
                    rw [schedL] at this
                    by_cases e : i = 16
                    · subst e
                      rw [if_pos (by omega), List.take_of_length_le (l := M) (by rw [HMl.out]; omega)] at this
                      exact this
                    · rw [if_neg (by omega)] at this
                      exact this
                  have e : next64 (W.take i) = Z := by
                    rw [hZ, sig64_alt, next64, hl, getD_take _ _ _ _ (by omega), getD_take _ _ _ _ (by omega), getD_take _ _ _ _ (by omega), getD_take _ _ _ _ (by omega), hX, hY, hA, hB]
                    rw [show i - 2 = p2 by omega, show i - 15 = p15 by omega, show i - 16 = p16 by omega, show i - 7 = p7 by omega]
                  rw [take_set_next _ _ _ (by rw [HWl.out]; omega), ← e, hT, schedL, if_neg (by omega), show i + 1 - 16 = (i - 16) + 1 by omega, sched64])
                have hW' := (hW.set i Z).drew
                have hH' := (hH.other hne1 i (.int .u64 (wi Z))).drew
                have HZ := Lib.hid hZ
                have HHg := Lib.hid hg
                have HHs := Lib.hid hsl
                have HHt := Lib.hid htr
                have W1 := add64
                have W0 := add64m
                have W2 := xor64
                have W3 := shr7
                have W4 := shr6
                clear h15 h2 h16 h7 hX hY hA hB hZ hW hH hg hsl htr
                go_wp2_with fail
                go_still_tail 29, (by kernel_rfl)
                still_call (still_of (turn64_l X 1 1 63 _ rfl (by omega) (by omega) rfl))
                repeat still_step
                still_call (still_of (turn64_l X 8 8 56 _ rfl (by omega) (by omega) rfl))
                repeat still_step
                still_call (still_of (turn64_l Y 19 19 45 _ rfl (by omega) (by omega) rfl))
                repeat still_step
                still_call (still_of (turn64_l Y 61 61 3 _ rfl (by omega) (by omega) rfl))
                repeat still_step
                refine wpStill_nil ?_
                change wpList _ _ _ _ _ wr.drew
                clear W0 W1 W2 W3 W4 c15 c2 c16 c7 f15 f2 f16 f7 e16 e7
                rw [← HZ.out]
                go_wp2_with fail
                have hg' := only_drew (only_setCell (p := ⟨gW, i, none⟩) HHg.out (.inr hgW3) (.int .u64 (wi Z)))
                have hsl' : Sl .u8 ((wr.setCell ⟨gW, i, none⟩ (.int .u64 (wi Z))).drew) az cz all := (HHs.out.grown' (grownBy_set wr ⟨gW, i, none⟩ (.int .u64 (wi Z))) (fun b' off' ha hp' e => far4 b' off' ha hp' (Option.some.inj e))).drewN 1
                have htr' : RefTabs ((wr.setCell ⟨gW, i, none⟩ (.int .u64 (wi Z))).drew) := (HHt.out.grown (only_drew (grownBy_set wr ⟨gW, i, none⟩ (.int .u64 (wi Z)))) (by have := ht.top; simp only; omega))
                go_roundw
                case rel => exact ⟨i + 1, _, by omega, by go_num, by rw [List.length_set]; exact HWl.out, fin.out, fun h => absurd h (by omega), hW', hH', hsl', htr', hg'⟩
                case measure => simp [intOf]; omega
              · obtain rfl : i = 80 := by omega
                rw [show ((80 : Nat) : Int) = 80 from rfl]
                have hWs : Hid (W = sched64 M 64) := Lib.hid (by
                  have := HWt.out
                  rw [List.take_of_length_le (by rw [HWl.out]; omega), schedL, if_neg (by omega)] at this
                  exact this)
                clear HWt HWd
                obtain ⟨S0, hS0⟩ : ∃ S0, S0 = blocks64 K512 s all q := ⟨_, rfl⟩
                rw [← hS0] at hH
                have HS0 := Lib.hid hS0
                clear hS0
                go_wp2_with (first | (refine wpList_load_rw rfl 43 (.tmp 3) rfl w.heap.size rfl 43 (S0.list.map v64) _ hH Tryd.underlying43 rfl size8l ?_) | (refine wpList_alloc_rw rfl 43 rfl (List.replicate 8 (.int .u64 0)) 8 zero8l ?_))
                intro w5 hk6 hs6 hb6
                go_wp2_with (refine wpList_store_rw rfl 43 (.tmp 14) (.tmp 127) rfl wr.heap.size 0 43 _ (S0.list.map v64) rfl rfl hk6 size8l (v64_one _) (show 0 + 8 ≤ 8 from Nat.le_refl 8) ?_)
                intro w6 hk7 hg7 hs7
                have hV0 : Wds .u64 w6 wr.heap.size 43 S0.list := hk7
                have hbA : Below wr.heap.size wr w6 := hb6.grown hg7 (by omega) (by simp)
                have hW6 : Wds .u64 w6 gW 52 W := hW.below hbA hW.lt
                have hH6 : Wds .u64 w6 w.heap.size 43 S0.list := hH.below hbA hH.lt
                have hsl6 := hsl.below hbA
                have htr6 := htr.below hbA
                have hg6 := only_below hg hbA
                have hWlt := hW.lt
                have hHlt := hH.lt
                have hgr := hg.size
                obtain ⟨gV, hgV⟩ : ∃ gV, gV = wr.heap.size := ⟨_, rfl⟩
                rw [← hgV] at hV0 hWlt hHlt hgr ⊢
                have far5 : ∀ b off, az = some ⟨b, off, none⟩ → 0 < all.length → b ≠ gV := fun b off ha hp e => by
                  obtain ⟨b', o', ha', hc⟩ := hsl.cells hp
                  rw [ha] at ha'
                  cases ha'
                  have := World.block_lt_of_cell? wr _ (hc 0 hp)
                  simp at this
                  omega
                clear hk6 hs6 hb6 hk7 hg7 hs7 hbA hW hH hsl htr hg hgV
                go_wp2_with fail
                go_loopw [15] (fun t wr => ∃ (k : Nat) (V : S8 64), k ≤ 80 ∧ t = .int .i64 (k : Int) ∧ V = rounds64 K512 W S0 k ∧ Wds .u64 wr gV 43 V.list ∧ Wds .u64 wr gW 52 W ∧ Wds .u64 wr w.heap.size 43 S0.list ∧ Sl .u8 wr az cz all ∧ RefTabs wr ∧ wz.grownBy wr (some w.heap.size))
                  (fun t _ => 80 - (intOf t).toNat)
                case atStart => exact ⟨0, S0, by omega, rfl, rfl, hV0, hW6, hH6, hsl6, htr6, hg6⟩
                case round =>
                  clear hV0 hW6 hH6 hsl6 htr6 hg6
                  obtain ⟨k, V, hk, rfl, hse, hV, hW, hH, hsl, htr, hg⟩ := hrel
                  have HS := Lib.hid hse
                  clear hse
                  by_cases hlt : k < 80
                  · have v0 : wr.cell? ⟨gV, 0, none⟩ = some (.int .u64 (wi V.a)) := hV.cell 0 (show 0 < 8 by omega)
                    have v1 : wr.cell? ⟨gV, 1, none⟩ = some (.int .u64 (wi V.b)) := hV.cell 1 (show 1 < 8 by omega)
                    have v2 : wr.cell? ⟨gV, 2, none⟩ = some (.int .u64 (wi V.c)) := hV.cell 2 (show 2 < 8 by omega)
                    have v3 : wr.cell? ⟨gV, 3, none⟩ = some (.int .u64 (wi V.d)) := hV.cell 3 (show 3 < 8 by omega)
                    have v4 : wr.cell? ⟨gV, 4, none⟩ = some (.int .u64 (wi V.e)) := hV.cell 4 (show 4 < 8 by omega)
                    have v5 : wr.cell? ⟨gV, 5, none⟩ = some (.int .u64 (wi V.f)) := hV.cell 5 (show 5 < 8 by omega)
                    have v6 : wr.cell? ⟨gV, 6, none⟩ = some (.int .u64 (wi V.g)) := hV.cell 6 (show 6 < 8 by omega)
                    have v7 : wr.cell? ⟨gV, 7, none⟩ = some (.int .u64 (wi V.h)) := hV.cell 7 (show 7 < 8 by omega)
                    have kc := htr.k512 k hlt
                    have wc := hW.cell k (by rw [HWl.out]; omega)
                    obtain ⟨kk, hkk⟩ : ∃ x, x = K512.getD k 0 := ⟨_, rfl⟩
                    obtain ⟨ww, hww⟩ : ∃ x, x = W.getD k 0 := ⟨_, rfl⟩
                    rw [← hkk] at kc
                    rw [← hww] at wc
                    have fin : Hid (round64 V kk ww = rounds64 K512 W S0 (k + 1)) := Lib.hid (by rw [rounds64, ← HS.out, hkk, hww])
                    have hk80 : (k : Int) < 80 := by omega
                    have W1 := add64
                    have W0 := add64m
                    have W2 := xor64
                    have W3 := and64
                    have W4 := or64
                    have W5 := not64'
                    obtain ⟨T, hT⟩ : ∃ T, T = V.h + (turn V.e 14 50 ^^^ turn V.e 18 46 ^^^ turn V.e 41 23) + ((V.e &&& V.f) ^^^ (~~~V.e &&& V.g)) + kk + ww := ⟨_, rfl⟩
                    obtain ⟨U, hU⟩ : ∃ U, U = (turn V.a 28 36 ^^^ turn V.a 34 30 ^^^ turn V.a 39 25) + ((V.a &&& V.b) ^^^ (V.a &&& V.c) ^^^ (V.b &&& V.c)) := ⟨_, rfl⟩
                    have hR : Hid ((round64 V kk ww).list = [T + U, V.a, V.b, V.c, V.d + T, V.e, V.f, V.g]) := Lib.hid (by
                      rw [hT, hU, ch_alt, maj_alt]; rfl)
                    have HT := Lib.hid hT
                    have HU := Lib.hid hU
                    clear hkk hww hT hU
                    go_wp2_with fail
                    go_quiet ((exact quiet_of' (turn64_any _ _ _ (by decide) (by decide))))
                    rw [← HT.out]
                    generalize hwq : wr.drewN nq = wq
                    have v0 : wq.cell? ⟨gV, 0, none⟩ = some (.int .u64 (wi V.a)) := by rw [← hwq]; exact v0
                    have v1 : wq.cell? ⟨gV, 1, none⟩ = some (.int .u64 (wi V.b)) := by rw [← hwq]; exact v1
                    have v2 : wq.cell? ⟨gV, 2, none⟩ = some (.int .u64 (wi V.c)) := by rw [← hwq]; exact v2
                    have v3 : wq.cell? ⟨gV, 3, none⟩ = some (.int .u64 (wi V.d)) := by rw [← hwq]; exact v3
                    have v5 : wq.cell? ⟨gV, 5, none⟩ = some (.int .u64 (wi V.f)) := by rw [← hwq]; exact v5
                    have v6 : wq.cell? ⟨gV, 6, none⟩ = some (.int .u64 (wi V.g)) := by rw [← hwq]; exact v6
                    replace hV : Wds .u64 wq gV 43 V.list := by rw [← hwq]; exact hV.drewN _
                    replace hW : Wds .u64 wq gW 52 W := by rw [← hwq]; exact hW.drewN _
                    replace hH : Wds .u64 wq w.heap.size 43 S0.list := by rw [← hwq]; exact hH.drewN _
                    replace hsl : Sl .u8 wq az cz all := by rw [← hwq]; exact hsl.drewN _
                    replace htr : RefTabs wq := by rw [← hwq]; exact htr.below (below_drewN (.refl _ _) _)
                    replace hg : wz.grownBy wq (some w.heap.size) := by rw [← hwq]; exact only_drewN hg _
                    clear kc wc v4 v7 hwq
                    go_wp2_with fail
                    go_quiet ((exact quiet_of' (turn64_any _ _ _ (by decide) (by decide))))
                    rw [← HU.out]
                    clear W2 W3 W4 W5
                    go_wp2_with (refine wpList_store_rw rfl 43 (.tmp 14) (.tmp 207) rfl gV 0 43 _ ([T + U, V.a, V.b, V.c, V.d + T, V.e, V.f, V.g].map v64) rfl rfl hV size8l (v64_one _) (show 0 + 8 ≤ 8 from Nat.le_refl 8) ?_)
                    intro w7 hk8 hg8 hs8
                    have hV7 : Wds .u64 w7 gV 43 (round64 V kk ww).list := by rw [hR.out]; exact hk8
                    have hW7 : Wds .u64 w7 gW 52 W := Rw.grown (hW.drewN nq) hg8 (by simp; omega)
                    have hH7 : Wds .u64 w7 w.heap.size 43 S0.list := Rw.grown (hH.drewN nq) hg8 (by simp; omega)
                    have hsl7 : Sl .u8 w7 az cz all := (hsl.drewN nq).grown' hg8 (fun b off ha hp e => far5 b off ha hp (Option.some.inj e))
                    have htr7 : RefTabs w7 := (htr.below (below_drewN (.refl _ _) nq)).grown hg8 (by have := ht.top; omega)
                    have hg7 := only_then (only_drewN hg nq) hg8 (.inr hgr)
                    clear hk8 hg8 hs8 hV hW hH hsl htr hg
                    go_wp2_with fail
                    go_roundw
                    case rel => exact ⟨k + 1, round64 V kk ww, by omega, by go_num, fin.out, hV7, hW7, hH7, hsl7, htr7, hg7⟩
                    case measure => simp [intOf]; omega
                  · obtain rfl : k = 80 := by omega
                    rw [show ((80 : Nat) : Int) = 80 from rfl]
                    obtain ⟨res, hres⟩ : ∃ res, res = (S0.plus V).list := ⟨_, rfl⟩
                    have hrl : Hid (res.length = 8) := Lib.hid (by rw [hres]; rfl)
                    have hrn : Hid (res = (blocks64 K512 s all (q + 1)).list) := Lib.hid (by rw [hres, HS.out, blocks64, block64, ← HS0.out, hWs.out, HM.out])
                    have HR := Lib.hid hres
                    have hH0 : Wds .u64 wr w.heap.size 43 (res.take 0 ++ S0.list.drop 0) := hH
                    clear hres HS hH
                    go_wp2_with fail
                    go_loopw [20] (fun t wr => ∃ (k : Nat), k ≤ 8 ∧ t = .int .i64 (k : Int) ∧ Wds .u64 wr w.heap.size 43 (res.take k ++ S0.list.drop k) ∧ Wds .u64 wr gV 43 V.list ∧ wz.grownBy wr (some w.heap.size))
                      (fun t _ => 8 - (intOf t).toNat)
                    case atStart => exact ⟨0, by omega, rfl, hH0, hV, hg⟩
                    case round =>
                      clear hH0 hV hg hW
                      obtain ⟨k, hk, rfl, hH, hV, hg⟩ := hrel
                      by_cases hlt : k < 8
                      · have ch := hH.cell k (by rw [List.length_append, List.length_take, List.length_drop, hrl.out, s8_len]; omega)
                        rw [mix_get _ _ _ _ (by rw [hrl.out]; omega) (by rw [s8_len]; omega)] at ch
                        have cv := hV.cell k (by rw [s8_len]; omega)
                        have fh := hH.free k
                        obtain ⟨x, hx⟩ : ∃ x, x = S0.list.getD k 0 := ⟨_, rfl⟩
                        obtain ⟨y, hy⟩ : ∃ y, y = V.list.getD k 0 := ⟨_, rfl⟩
                        rw [← hx] at ch
                        rw [← hy] at cv
                        have hH' := hH.set k (x + y)
                        rw [show (res.take k ++ S0.list.drop k).set k (x + y) = res.take (k + 1) ++ S0.list.drop (k + 1) by
                          rw [show x + y = res.getD k 0 by rw [HR.out, plus_getD _ _ _ hlt, hx, hy]]
                          exact mix_set _ _ _ _ (by rw [hrl.out]; omega) (by rw [s8_len]; omega)] at hH'
                        have hV' := hV.other (show gV ≠ w.heap.size by omega) k (.int .u64 (wi (x + y)))
                        have hk8 : (k : Int) < 8 := by omega
                        have W1 := add64
                        have W0 := add64m
                        clear hx hy hH hV
                        go_wp2_with fail
                        go_still_tail 9, (by kernel_rfl)
                        change wpList _ _ _ _ _ wr.drew
                        have hg2 := only_drew (only_setCell (p := ⟨w.heap.size, k, none⟩) hg (.inl rfl) (.int .u64 (wi (x + y))))
                        go_wp2_with fail
                        go_roundw
                        case rel => exact ⟨k + 1, by omega, by go_num, hH'.drew, hV'.drew, hg2⟩
                        case measure => simp [intOf]; omega
                      · obtain rfl : k = 8 := by omega
                        rw [show ((8 : Nat) : Int) = 8 from rfl]
                        rw [List.take_of_length_le (by rw [hrl.out]; omega), List.drop_of_length_le (by rw [s8_len]; omega), List.append_nil, hrn.out] at hH
                        go_wp2_with fail
                        go_roundw
                        case rel => exact ⟨q + 1, by omega, by go_num, hH, hg⟩
                        case measure => have := HQ.out; simp [intOf]; omega
        · obtain rfl : q = Q := by omega
          have hd1 : decide (128 * (q : Int) < (n : Int)) = false := decide_eq_false (by have := HQ.out; omega)
          obtain ⟨res, hres⟩ : ∃ res, res = (blocks64 K512 s all q).list := ⟨_, rfl⟩
          rw [← hres] at hH
          have hsum : Hid (res.flatMap bytes64 = sum64 s bs) := Lib.hid (by
            have e : all.length / 128 = q := by rw [← HN.out, HQ.out]; omega
            rw [hres, sum64, ← HALL.out, e])
          have hrl : Hid (res.length = 8) := Lib.hid (by rw [hres]; rfl)
          clear hres hsl htr
          obtain ⟨wo, hwo⟩ : ∃ wo : World, wo = wr := ⟨_, rfl⟩
          subst hwo
          have hws3 : w.heap.size < wo.heap.size := by omega
          go_wp2_with fail
          go_loopw [21, 22] (fun v t wr => ∃ (k : Nat), k ≤ 8 ∧ t = .int .i64 (k : Int) ∧ New wo.heap.size .u8 5 wr v ((res.take k).flatMap bytes64) ∧ Below wo.heap.size wo wr)
            (fun _ t _ => 8 - (intOf t).toNat)
          case atStart => exact ⟨0, by omega, rfl, .nil _ _ _ _, .refl _ _⟩
          case round =>
            obtain ⟨k, hk, rfl, hv, hb⟩ := hrel
            have hbs := hb.size
            by_cases hlt8 : k < 8
            · obtain ⟨V, hV⟩ : ∃ V, V = res.getD k 0 := ⟨_, rfl⟩
              have HV := Lib.hid hV
              have HPL : Hid (((res.take k).flatMap bytes64).length = 8 * k) := Lib.hid (by rw [flat64_len, List.length_take, hrl.out]; omega)
              have hv0 : New wo.heap.size .u8 5 wr u21 ((res.take k).flatMap bytes64 ++ (bytes64 V).take (8 - 8)) := by simpa using hv
              have fin : Hid ((res.take (k + 1)).flatMap bytes64 = (res.take k).flatMap bytes64 ++ bytes64 V) := Lib.hid (by rw [hV, flat64_next _ _ (by rw [hrl.out]; omega)])
              have hk8 : decide ((k : Int) < 8) = true := decide_eq_true (by omega)
              clear hV hv
              go_wp2_with fail
              go_loopw [21, 23] (fun v t wr => ∃ (c : Nat), c ≤ 8 ∧ t = .int .i64 ((c : Int) - 1) ∧ New wo.heap.size .u8 5 wr v ((res.take k).flatMap bytes64 ++ (bytes64 V).take (8 - c)) ∧ Below wo.heap.size wo wr)
                (fun _ t _ => (intOf t + 1).toNat)
              case atStart => exact ⟨8, by omega, rfl, hv0, hb⟩
              case round =>
                clear hv0 hb hbs
                obtain ⟨c, hc8, rfl, hv, hb⟩ := hrel
                have hbs := hb.size
                obtain ⟨a2, cap2, rfl, hsl⟩ := hv.sl
                obtain ⟨l3, hl3⟩ : ∃ l3, l3 = ((res.take k).flatMap bytes64 ++ (bytes64 V).take (8 - c)).length := ⟨_, rfl⟩
                rw [← hl3] at hv ⊢
                rcases Nat.eq_zero_or_pos c with h0 | hp
                · subst h0
                  rw [show (((0 : Nat) : Int) - 1) = -1 from rfl]
                  rw [Nat.sub_zero, List.take_of_length_le (Nat.le_of_eq (bytes64_len _)), ← fin.out] at hv
                  clear hl3 hsl
                  go_wp2_with fail
                  go_roundw
                  case rel => exact ⟨k + 1, by omega, by go_num, hv, hb⟩
                  case measure => simp [intOf]; omega
                · obtain ⟨c, rfl⟩ : ∃ j, c = j + 1 := ⟨c - 1, by omega⟩
                  rw [show (((c + 1 : Nat) : Int) - 1) = (c : Int) by omega]
                  have HL3 : Hid (l3 = 8 * k + (8 - (c + 1))) := Lib.hid (by rw [hl3, List.length_append, HPL.out, List.length_take, bytes64_len]; omega)
                  have lb3 : l3 ≤ 64 := by have := HL3.out; omega
                  have HLL3 := Lib.hid hl3
                  have hHk : Wds .u64 wr w.heap.size 43 res := hH.below hb hH.lt
                  have ch := hHk.cell k (by rw [hrl.out]; omega)
                  rw [← HV.out] at ch
                  obtain ⟨N, hN⟩ : ∃ N, N = V.toNat := ⟨_, rfl⟩
                  have hNb : N < 18446744073709551616 := by rw [hN]; exact V.isLt
                  have e : wi V = (N : Int) := by rw [hN]; rfl
                  rw [e] at ch
                  obtain ⟨x, hx⟩ : ∃ x, x = N / 256 ^ c % 256 := ⟨_, rfl⟩
                  have x256 : x < 256 := by rw [hx]; exact Nat.mod_lt _ (by decide)
                  have hand : bits .and .u64 ((N : Int) / 2 ^ (8 * c)) 255 = (x : Int) := by
                    have e : (N : Int) / 2 ^ (8 * c) = ((N / 2 ^ (8 * c) : Nat) : Int) := by
                      simp only [Int.natCast_ediv, Int.natCast_pow]; rfl
                    have hb : N / 2 ^ (8 * c) ≤ N := Nat.div_le_self _ _
                    rw [e]
                    refine (u64_and_nat _ 255 (by omega) (by omega)).trans ?_
                    rw [Nat.and_two_pow_sub_one_eq_mod _ 8, hx, show (256 : Nat) ^ c = 2 ^ (8 * c) by rw [show (256 : Nat) = 2 ^ 8 from rfl, ← Nat.pow_mul]]
                  have HX : Hid ((x : Int) = ((V.toNat / 256 ^ c % 256 : Nat) : Int)) := Lib.hid (by rw [hx, hN])
                  have hk8' : (k : Int) < 8 := by omega
                  clear hl3 hsl hHk e hN hx
                  go_wp2_with (at_builtin; refine wpList_append_new _ rfl _ _ 29 rfl wo.heap.size 5 .u8 1 Tryd.underlying29 info8s _ _ rfl (hv.alloc _) _ _ 1 [(x : Int)] rfl rfl (cells_one _ _ _ _ _ rfl) (by rw [← HLL3.out]; simp only [List.length_cons, List.length_nil]; omega) (by rw [← HLL3.out]; simp only [List.length_cons, List.length_nil]; omega) (by simp; omega) ?_)
                  intro v' w' hv' hg' _
                  have hlt1 := fun g hg => (hv.lt g hg).1
                  have hb' : Below wo.heap.size wo w' := (hb.alloc hbs _).grown hg' (by simp; omega) hlt1
                  replace hv' : New wo.heap.size .u8 5 w' v' ((res.take k).flatMap bytes64 ++ (bytes64 V).take (8 - c)) := by
                    rw [bytes64_next V c (by omega), ← HX.out, show 8 - (c + 1) = 7 - c by omega]; exact hv'
                  clear hv hg' hb
                  go_wp2_with fail
                  go_roundw
                  case rel => exact ⟨c, by omega, by go_num, hv', hb'⟩
                  case measure => simp [intOf]
            · obtain rfl : k = 8 := by omega
              rw [show ((8 : Nat) : Int) = 8 from rfl]
              rw [List.take_of_length_le (Nat.le_of_eq hrl.out), hsum.out] at hv
              have hws : w.heap.size ≤ wo.heap.size := by omega
              have hwo : Below w.heap.size w wo := below_then hBz hg (Nat.le_refl _) hBz.size
              have hfin : Below w.heap.size w wr := hwo.trans (hb.mono hwo.size)
              go_wp2_with fail
              go_ret
              exact ⟨_, rfl, hv.mono hws, hfin⟩
end Go.Proofs.YtnlmkikaaifcmaaDoor
