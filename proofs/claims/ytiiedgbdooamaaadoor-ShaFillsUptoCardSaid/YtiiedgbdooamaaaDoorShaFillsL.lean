/- signetlaw4.ShaFills, its walk. (Printed by gen_shafills.py.) -/
import Derived.Test.YtiiedgbdooamaaaDoorRefS
import Derived.Test.YtiiedgbdooamaaaDoorOpen
set_option linter.unusedVariables false
set_option linter.unusedSimpArgs false
namespace Go.Proofs.YtiiedgbdooamaaaDoor
open Go.RowKit Go.Sg

set_option maxHeartbeats 8000000 in
set_option maxRecDepth 20000 in
theorem ShaFills_c (h b n : Int) (w : World) (hb0 : 0 ≤ b ∧ b ≤ 255) (hn : -9223372036854775808 ≤ n ∧ n ≤ 9223372036854775807) (ht : ShaTabs w) (hr : RefTabs w) :
    Calls Tryd.prog 5 #[.int .i64 h, .int .u8 b, .int .i64 n] w (TruePost w) := by
  by_cases q : n < 0
  · have hN : ∃ N : Nat, N = 0 ∧ (N : Int) = 0 := ⟨0, rfl, rfl⟩
    obtain ⟨N, hN0, hN⟩ := hN
    have hNb : N < 300 := by omega
    have d0 : decide (n < 0) = true := decide_eq_true q
    clear hN0
    go_enter Tryd.func5, Tryd.ntmps5
    go_wp2_with (at_make; refine wpList_make_blk _ rfl _ _ 29 rfl 5 .u8 1 Tryd.underlying29 info8s N _ _ rfl rfl hN.symm hN.symm (by omega) (by omega) ?_)
    intro w1 hk1 hs1 hb1
    rw [← hN]
    clear hN
    obtain ⟨G, hG⟩ : ∃ G, G = w.heap.size := ⟨_, rfl⟩
    rw [← hG] at hk1 ⊢
    have HG := Lib.hid hG
    have hk0 : Blk w1 G .u8 5 (List.replicate 0 b ++ List.replicate (N - 0) 0) := hk1
    have hge : w.heap.size ≤ G := by omega
    clear hG hk1 hs1
    go_wp2_with fail
    go_loopw [8] (fun t wr => ∃ i : Nat, i ≤ N ∧ t = .int .i64 (i : Int) ∧ Blk wr G .u8 5 (List.replicate i b ++ List.replicate (N - i) 0) ∧ Below w.heap.size w wr)
      (fun t _ => N - (intOf t).toNat)
    case atStart => exact ⟨0, by omega, rfl, hk0, hb1⟩
    case round =>
      clear hk0 hb1
      obtain ⟨i, hi, rfl, hk, hb⟩ := hrel
      by_cases hlt : i < N
      · have c0 := hk.cell i (by simp; omega)
        have f0 := hk.free i
        have hs := hk.set i b
        have fin : Hid ((List.replicate i b ++ List.replicate (N - i) 0).set i b = List.replicate (i + 1) b ++ List.replicate (N - (i + 1)) 0) := Lib.hid (by
          rw [List.set_append_right _ _ (by simp), List.length_replicate, Nat.sub_self, show N - i = (N - (i + 1)) + 1 by omega, List.replicate_succ (n := N - (i + 1)), List.set_cons_zero, List.replicate_succ', List.append_assoc]
          rfl)
        rw [fin.out] at hs
        have hb' := hb.setCell (p := ⟨G, i, none⟩) hge (.int .u8 b)
        have hd1 : decide ((i : Int) < (N : Int)) = true := decide_eq_true (by omega)
        have hi1 : (i : Int) < (N : Int) := by omega
        clear hk hb
        go_wp2_with fail
        go_roundw
        case rel => exact ⟨i + 1, by omega, by go_num, hs, hb'⟩
        case measure => simp [intOf]; omega
      · obtain rfl : N = i := by omega
        have hd1 : decide ((N : Int) < (N : Int)) = false := by simp
        rw [Nat.sub_self, List.replicate_zero, List.append_nil] at hk
        obtain ⟨T, hT⟩ : ∃ T, T = List.replicate N b := ⟨_, rfl⟩
        rw [← hT] at hk
        have lT : T.length = N := by rw [hT, List.length_replicate]
        have uT : U8 T := by rw [hT]; exact .of_mem (by omega) (by intro x hx; rw [List.mem_replicate] at hx; rw [hx.2]; exact hb0)
        have eT := Lib.hid hT
        have LT := Lib.hid lT
        have sT0 := hk.sl_full (by omega)
        obtain ⟨aT, haT⟩ : ∃ a, a = some (⟨G, 0, none⟩ : Addr) := ⟨_, rfl⟩
        have sT : Sl .u8 wr aT N T := by rw [haT, ← lT]; exact sT0
        have HA := Lib.hid haT
        have htr := ht.below hb
        have hrr := hr.below hb
        have hB := hb
        rw [← haT]
        clear hT lT sT0 hk hlt hi haT
        obtain ⟨w0, hw0⟩ : ∃ w0 : World, w0 = wr := ⟨_, rfl⟩
        subst hw0
        have cr := rSum_c h aT N T w0 sT uT (by rw [LT.out]; omega) hrr
        rw [LT.out] at cr
        go_wp2_with fail
        refine (cr).mono ?_; rintro e w1 ⟨vA, rfl, nA, hb⟩
        replace sT := sT.below hb
        replace htr := htr.below hb
        replace hrr := hrr.below hb
        replace hB := hB.trans (hb.mono hB.size)
        clear hb
        obtain ⟨aA, cA, rfl, sA⟩ := nA.sl
        clear nA
        obtain ⟨zA, hA⟩ : ∃ z, z = sha h T := ⟨_, rfl⟩
        rw [← hA] at sA ⊢
        have uA : U8 zA := by rw [hA]; exact sha_u8 _ _
        have lA : zA.length ≤ 64 := by rw [hA]; rw [sha_len]; exact shaSize_le h
        have eA := Lib.hid hA
        clear hA
        have c1 := Sum1_c h aT N T _ sT uT (by rw [LT.out]; omega) htr
        rw [LT.out] at c1
        go_wp2_with fail
        refine (c1).mono ?_; rintro e w2 ⟨vBb, rfl, nBb, hb⟩
        replace sT := sT.below hb
        replace htr := htr.below hb
        replace hrr := hrr.below hb
        replace sA := sA.below hb
        replace hB := hB.trans (hb.mono hB.size)
        clear hb
        obtain ⟨aBb, cBb, rfl, sBb⟩ := nBb.sl
        clear nBb
        obtain ⟨zBb, hBb⟩ : ∃ z, z = sha h T := ⟨_, rfl⟩
        rw [← hBb] at sBb ⊢
        have uBb : U8 zBb := by rw [hBb]; exact sha_u8 _ _
        have eBb := Lib.hid hBb
        clear hBb
        go_wp2_with fail
        refine (same4_c _ _ _ _ _ _ _ sBb sA uBb uA).mono ?_; rintro e w3 ⟨rfl, hb⟩
        replace sT := sT.below hb
        replace htr := htr.below hb
        replace hrr := hrr.below hb
        replace sA := sA.below hb
        replace sBb := sBb.below hb
        replace hB := hB.trans (hb.mono hB.size)
        clear hb
        rw [show decide (zBb = zA) = true from decide_eq_true (by rw [eBb.out, eA.out])]
        clear sBb
        clear c1 cr
        by_cases hh : IsHash h
        · skip
          go_wp2_with fail
          refine (New_c h hh _ htr).mono ?_; rintro e w4 ⟨g, rfl, hg, hs, hb⟩
          have hgw : w.heap.size ≤ g := Nat.le_trans hB.size hg
          have hap : ∀ b off, aT = some ⟨b, off, none⟩ → 0 < T.length → b ≠ g := sT.apart hg
          have hapA : ∀ b off, aA = some ⟨b, off, none⟩ → 0 < zA.length → b ≠ g := sA.apart hg
          have htop := htr.top
          replace sT := sT.below hb
          replace htr := htr.below hb
          replace hrr := hrr.below hb
          replace sA := sA.below hb
          replace hB := hB.trans (hb.mono hB.size)
          clear hb
          have hgl := hs.lt
          have hs0 : ShaSt w4 g h (List.replicate 0 b) := hs
          clear hs
          go_wp2_with fail
          go_loopw [11] (fun t wr => ∃ i : Nat, i ≤ N ∧ t = .int .i64 (i : Int) ∧ ShaSt wr g h (List.replicate i b) ∧ w4.grownBy wr (some g))
            (fun t _ => N - (intOf t).toNat)
          case atStart => exact ⟨0, by omega, rfl, hs0, rfl, rfl, rfl, Nat.le_refl _, fun _ _ _ => rfl⟩
          case round =>
            clear hs0
            obtain ⟨i, hi, rfl, hs, hg1⟩ := hrel
            have hgs := hg1.size
            have hfar := hs.far
            have htw : ShaTabs wr := htr.grown hg1 hfar
            have sTw : Sl .u8 wr aT N T := sT.grown' hg1 (fun b off ha hp e => hap b off ha hp (Option.some.inj e))
            by_cases hlt : i < N
            · have hd1 : decide ((i : Int) < (N : Int)) = true := decide_eq_true (by omega)
              have hcut := fun W => cut_lh (P := Tryd.prog) W 29 5 Tryd.underlying29 size8 aT N N i (i + 1) (by omega) (by omega) (i : Int) ((i : Int) + 1) rfl (by omega)
              have s1 := (sTw.cut i (by rw [LT.out]; omega)).take 1
              obtain ⟨a1, ha1⟩ : ∃ x, x = (if N = i then aT else aT.map (·.add i)) := ⟨_, rfl⟩
              obtain ⟨o, ho⟩ : ∃ o, o = i + 1 - i := ⟨_, rfl⟩
              obtain ⟨c1, hc1⟩ : ∃ c, c = N - i := ⟨_, rfl⟩
              rw [← ha1, ← hc1] at s1 hcut
              rw [← ho] at hcut
              have e1 : (T.drop i).take 1 = [b] := by
                rw [eT.out, List.drop_replicate, List.take_replicate, show min 1 (N - i) = 1 by omega]; rfl
              rw [e1] at s1
              have HO : Hid (o = [b].length) := Lib.hid (by rw [ho]; simp)
              have hap1 : ∀ b' off, a1 = some ⟨b', off, none⟩ → 0 < [b].length → b' ≠ g := by
                intro b' off ha hp
                rw [ha1] at ha
                obtain ⟨off', sp, hx⟩ := cut_block ha
                have hsp : sp = none := by
                  obtain ⟨b2, o2, h2, _⟩ := sTw.cells (by rw [LT.out]; omega)
                  rw [hx] at h2
                  cases h2
                  rfl
                subst hsp
                exact hap b' off' hx (by rw [LT.out]; omega)
              have cw := Write_c g h (List.replicate i b) a1 c1 [b] wr hs s1 (.one hb0.1 hb0.2) hap1 htw
              rw [← HO.out] at cw
              have fin : Hid (List.replicate i b ++ [b] = List.replicate (i + 1) b) := Lib.hid (by rw [List.replicate_succ'])
              rw [fin.out] at cw
              have hi1 : (i : Int) < (N : Int) := by omega
              clear ha1 ho hc1 e1 s1 hap1
              go_wp2_with fail
              refine cw.mono ?_; rintro e wv ⟨rfl, hs', hg2⟩
              have hg3 := only_trans hg1 hg2
              clear cw hcut hg1 hg2 hs htw sTw
              go_wp2_with fail
              go_roundw
              case rel => exact ⟨i + 1, by omega, by go_num, hs', hg3⟩
              case measure => simp [intOf]; omega
            · obtain rfl : N = i := by omega
              have hd1 : decide ((N : Int) < (N : Int)) = false := by simp
              have sAw : Sl .u8 wr aA cA zA := sA.grown' hg1 (fun b off ha hp e => hapA b off ha hp (Option.some.inj e))
              rw [← eT.out] at hs
              go_wp2_with fail
              refine (StSum_c g h T wr hs (by rw [LT.out]; omega) htw).mono ?_; rintro e wz ⟨v, rfl, hv, hbz⟩
              obtain ⟨aX, cX, rfl, sX⟩ := hv.sl
              have sAz := sAw.below hbz
              have hBr : Below w.heap.size w wr := below_then hB hg1 hgw hB.size
              have hBz := hBr.trans (hbz.mono hBr.size)
              obtain ⟨zX, hX⟩ : ∃ z, z = sha h T := ⟨_, rfl⟩
              rw [← hX] at sX ⊢
              have uX : U8 zX := by rw [hX]; exact sha_u8 _ _
              have eX : Hid (zX = zA) := Lib.hid (by rw [hX, eA.out])
              clear hX hv hbz sAw hBr
              go_wp2_with fail
              refine (same4_c _ _ _ _ _ _ _ sX sAz uX uA).mono ?_; rintro e wy ⟨rfl, hby⟩
              have hBy := hBz.trans (hby.mono hBz.size)
              rw [show decide (zX = zA) = true from decide_eq_true eX.out]
              go_wp2_with fail
              go_ret
              exact ⟨rfl, hBy⟩
        · have hA0 : zA = [] := by rw [eA.out, sha_no hh]
          subst hA0
          go_wp2_with fail
          refine (New_no h hh _).mono ?_; rintro e wq ⟨rfl, hb⟩
          replace hB := hB.trans (hb.mono hB.size)
          go_wp2_with fail
          go_ret
          exact ⟨rfl, hB⟩
  · obtain ⟨N, hN⟩ : ∃ N : Nat, n % 300 = (N : Int) := ⟨(n % 300).toNat, by omega⟩
    have hNb : N < 300 := by omega
    have d0 : decide (n < 0) = false := decide_eq_false q
    have hn0 : 0 ≤ n := by omega
    have hN' : n.tmod 300 = (N : Int) := by rw [Int.tmod_eq_emod_of_nonneg hn0]; exact hN
    go_enter Tryd.func5, Tryd.ntmps5
    go_wp2_with (at_make; refine wpList_make_blk _ rfl _ _ 29 rfl 5 .u8 1 Tryd.underlying29 info8s N _ _ rfl rfl rfl rfl (by omega) (by omega) ?_)
    intro w1 hk1 hs1 hb1
    clear hN hN'
    obtain ⟨G, hG⟩ : ∃ G, G = w.heap.size := ⟨_, rfl⟩
    rw [← hG] at hk1 ⊢
    have HG := Lib.hid hG
    have hk0 : Blk w1 G .u8 5 (List.replicate 0 b ++ List.replicate (N - 0) 0) := hk1
    have hge : w.heap.size ≤ G := by omega
    clear hG hk1 hs1
    go_wp2_with fail
    go_loopw [8] (fun t wr => ∃ i : Nat, i ≤ N ∧ t = .int .i64 (i : Int) ∧ Blk wr G .u8 5 (List.replicate i b ++ List.replicate (N - i) 0) ∧ Below w.heap.size w wr)
      (fun t _ => N - (intOf t).toNat)
    case atStart => exact ⟨0, by omega, rfl, hk0, hb1⟩
    case round =>
      clear hk0 hb1
      obtain ⟨i, hi, rfl, hk, hb⟩ := hrel
      by_cases hlt : i < N
      · have c0 := hk.cell i (by simp; omega)
        have f0 := hk.free i
        have hs := hk.set i b
        have fin : Hid ((List.replicate i b ++ List.replicate (N - i) 0).set i b = List.replicate (i + 1) b ++ List.replicate (N - (i + 1)) 0) := Lib.hid (by
          rw [List.set_append_right _ _ (by simp), List.length_replicate, Nat.sub_self, show N - i = (N - (i + 1)) + 1 by omega, List.replicate_succ (n := N - (i + 1)), List.set_cons_zero, List.replicate_succ', List.append_assoc]
          rfl)
        rw [fin.out] at hs
        have hb' := hb.setCell (p := ⟨G, i, none⟩) hge (.int .u8 b)
        have hd1 : decide ((i : Int) < (N : Int)) = true := decide_eq_true (by omega)
        have hi1 : (i : Int) < (N : Int) := by omega
        clear hk hb
        go_wp2_with fail
        go_roundw
        case rel => exact ⟨i + 1, by omega, by go_num, hs, hb'⟩
        case measure => simp [intOf]; omega
      · obtain rfl : N = i := by omega
        have hd1 : decide ((N : Int) < (N : Int)) = false := by simp
        rw [Nat.sub_self, List.replicate_zero, List.append_nil] at hk
        obtain ⟨T, hT⟩ : ∃ T, T = List.replicate N b := ⟨_, rfl⟩
        rw [← hT] at hk
        have lT : T.length = N := by rw [hT, List.length_replicate]
        have uT : U8 T := by rw [hT]; exact .of_mem (by omega) (by intro x hx; rw [List.mem_replicate] at hx; rw [hx.2]; exact hb0)
        have eT := Lib.hid hT
        have LT := Lib.hid lT
        have sT0 := hk.sl_full (by omega)
        obtain ⟨aT, haT⟩ : ∃ a, a = some (⟨G, 0, none⟩ : Addr) := ⟨_, rfl⟩
        have sT : Sl .u8 wr aT N T := by rw [haT, ← lT]; exact sT0
        have HA := Lib.hid haT
        have htr := ht.below hb
        have hrr := hr.below hb
        have hB := hb
        rw [← haT]
        clear hT lT sT0 hk hlt hi haT
        obtain ⟨w0, hw0⟩ : ∃ w0 : World, w0 = wr := ⟨_, rfl⟩
        subst hw0
        have cr := rSum_c h aT N T w0 sT uT (by rw [LT.out]; omega) hrr
        rw [LT.out] at cr
        go_wp2_with fail
        refine (cr).mono ?_; rintro e w1 ⟨vA, rfl, nA, hb⟩
        replace sT := sT.below hb
        replace htr := htr.below hb
        replace hrr := hrr.below hb
        replace hB := hB.trans (hb.mono hB.size)
        clear hb
        obtain ⟨aA, cA, rfl, sA⟩ := nA.sl
        clear nA
        obtain ⟨zA, hA⟩ : ∃ z, z = sha h T := ⟨_, rfl⟩
        rw [← hA] at sA ⊢
        have uA : U8 zA := by rw [hA]; exact sha_u8 _ _
        have lA : zA.length ≤ 64 := by rw [hA]; rw [sha_len]; exact shaSize_le h
        have eA := Lib.hid hA
        clear hA
        have c1 := Sum1_c h aT N T _ sT uT (by rw [LT.out]; omega) htr
        rw [LT.out] at c1
        go_wp2_with fail
        refine (c1).mono ?_; rintro e w2 ⟨vBb, rfl, nBb, hb⟩
        replace sT := sT.below hb
        replace htr := htr.below hb
        replace hrr := hrr.below hb
        replace sA := sA.below hb
        replace hB := hB.trans (hb.mono hB.size)
        clear hb
        obtain ⟨aBb, cBb, rfl, sBb⟩ := nBb.sl
        clear nBb
        obtain ⟨zBb, hBb⟩ : ∃ z, z = sha h T := ⟨_, rfl⟩
        rw [← hBb] at sBb ⊢
        have uBb : U8 zBb := by rw [hBb]; exact sha_u8 _ _
        have eBb := Lib.hid hBb
        clear hBb
        go_wp2_with fail
        refine (same4_c _ _ _ _ _ _ _ sBb sA uBb uA).mono ?_; rintro e w3 ⟨rfl, hb⟩
        replace sT := sT.below hb
        replace htr := htr.below hb
        replace hrr := hrr.below hb
        replace sA := sA.below hb
        replace sBb := sBb.below hb
        replace hB := hB.trans (hb.mono hB.size)
        clear hb
        rw [show decide (zBb = zA) = true from decide_eq_true (by rw [eBb.out, eA.out])]
        clear sBb
        clear c1 cr
        by_cases hh : IsHash h
        · skip
          go_wp2_with fail
          refine (New_c h hh _ htr).mono ?_; rintro e w4 ⟨g, rfl, hg, hs, hb⟩
          have hgw : w.heap.size ≤ g := Nat.le_trans hB.size hg
          have hap : ∀ b off, aT = some ⟨b, off, none⟩ → 0 < T.length → b ≠ g := sT.apart hg
          have hapA : ∀ b off, aA = some ⟨b, off, none⟩ → 0 < zA.length → b ≠ g := sA.apart hg
          have htop := htr.top
          replace sT := sT.below hb
          replace htr := htr.below hb
          replace hrr := hrr.below hb
          replace sA := sA.below hb
          replace hB := hB.trans (hb.mono hB.size)
          clear hb
          have hgl := hs.lt
          have hs0 : ShaSt w4 g h (List.replicate 0 b) := hs
          clear hs
          go_wp2_with fail
          go_loopw [11] (fun t wr => ∃ i : Nat, i ≤ N ∧ t = .int .i64 (i : Int) ∧ ShaSt wr g h (List.replicate i b) ∧ w4.grownBy wr (some g))
            (fun t _ => N - (intOf t).toNat)
          case atStart => exact ⟨0, by omega, rfl, hs0, rfl, rfl, rfl, Nat.le_refl _, fun _ _ _ => rfl⟩
          case round =>
            clear hs0
            obtain ⟨i, hi, rfl, hs, hg1⟩ := hrel
            have hgs := hg1.size
            have hfar := hs.far
            have htw : ShaTabs wr := htr.grown hg1 hfar
            have sTw : Sl .u8 wr aT N T := sT.grown' hg1 (fun b off ha hp e => hap b off ha hp (Option.some.inj e))
            by_cases hlt : i < N
            · have hd1 : decide ((i : Int) < (N : Int)) = true := decide_eq_true (by omega)
              have hcut := fun W => cut_lh (P := Tryd.prog) W 29 5 Tryd.underlying29 size8 aT N N i (i + 1) (by omega) (by omega) (i : Int) ((i : Int) + 1) rfl (by omega)
              have s1 := (sTw.cut i (by rw [LT.out]; omega)).take 1
              obtain ⟨a1, ha1⟩ : ∃ x, x = (if N = i then aT else aT.map (·.add i)) := ⟨_, rfl⟩
              obtain ⟨o, ho⟩ : ∃ o, o = i + 1 - i := ⟨_, rfl⟩
              obtain ⟨c1, hc1⟩ : ∃ c, c = N - i := ⟨_, rfl⟩
              rw [← ha1, ← hc1] at s1 hcut
              rw [← ho] at hcut
              have e1 : (T.drop i).take 1 = [b] := by
                rw [eT.out, List.drop_replicate, List.take_replicate, show min 1 (N - i) = 1 by omega]; rfl
              rw [e1] at s1
              have HO : Hid (o = [b].length) := Lib.hid (by rw [ho]; simp)
              have hap1 : ∀ b' off, a1 = some ⟨b', off, none⟩ → 0 < [b].length → b' ≠ g := by
                intro b' off ha hp
                rw [ha1] at ha
                obtain ⟨off', sp, hx⟩ := cut_block ha
                have hsp : sp = none := by
                  obtain ⟨b2, o2, h2, _⟩ := sTw.cells (by rw [LT.out]; omega)
                  rw [hx] at h2
                  cases h2
                  rfl
                subst hsp
                exact hap b' off' hx (by rw [LT.out]; omega)
              have cw := Write_c g h (List.replicate i b) a1 c1 [b] wr hs s1 (.one hb0.1 hb0.2) hap1 htw
              rw [← HO.out] at cw
              have fin : Hid (List.replicate i b ++ [b] = List.replicate (i + 1) b) := Lib.hid (by rw [List.replicate_succ'])
              rw [fin.out] at cw
              have hi1 : (i : Int) < (N : Int) := by omega
              clear ha1 ho hc1 e1 s1 hap1
              go_wp2_with fail
              refine cw.mono ?_; rintro e wv ⟨rfl, hs', hg2⟩
              have hg3 := only_trans hg1 hg2
              clear cw hcut hg1 hg2 hs htw sTw
              go_wp2_with fail
              go_roundw
              case rel => exact ⟨i + 1, by omega, by go_num, hs', hg3⟩
              case measure => simp [intOf]; omega
            · obtain rfl : N = i := by omega
              have hd1 : decide ((N : Int) < (N : Int)) = false := by simp
              have sAw : Sl .u8 wr aA cA zA := sA.grown' hg1 (fun b off ha hp e => hapA b off ha hp (Option.some.inj e))
              rw [← eT.out] at hs
              go_wp2_with fail
              refine (StSum_c g h T wr hs (by rw [LT.out]; omega) htw).mono ?_; rintro e wz ⟨v, rfl, hv, hbz⟩
              obtain ⟨aX, cX, rfl, sX⟩ := hv.sl
              have sAz := sAw.below hbz
              have hBr : Below w.heap.size w wr := below_then hB hg1 hgw hB.size
              have hBz := hBr.trans (hbz.mono hBr.size)
              obtain ⟨zX, hX⟩ : ∃ z, z = sha h T := ⟨_, rfl⟩
              rw [← hX] at sX ⊢
              have uX : U8 zX := by rw [hX]; exact sha_u8 _ _
              have eX : Hid (zX = zA) := Lib.hid (by rw [hX, eA.out])
              clear hX hv hbz sAw hBr
              go_wp2_with fail
              refine (same4_c _ _ _ _ _ _ _ sX sAz uX uA).mono ?_; rintro e wy ⟨rfl, hby⟩
              have hBy := hBz.trans (hby.mono hBz.size)
              rw [show decide (zX = zA) = true from decide_eq_true eX.out]
              go_wp2_with fail
              go_ret
              exact ⟨rfl, hBy⟩
        · have hA0 : zA = [] := by rw [eA.out, sha_no hh]
          subst hA0
          go_wp2_with fail
          refine (New_no h hh _).mono ?_; rintro e wq ⟨rfl, hb⟩
          replace hB := hB.trans (hb.mono hB.size)
          go_wp2_with fail
          go_ret
          exact ⟨rfl, hB⟩
end Go.Proofs.YtiiedgbdooamaaaDoor
