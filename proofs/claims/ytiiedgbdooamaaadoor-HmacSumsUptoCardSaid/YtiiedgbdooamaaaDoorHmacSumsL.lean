/- signetlaw5.HmacSums, its walk. (Printed by gen_hmacsums.py.) -/
import Derived.Test.YtiiedgbdooamaaaDoorMarkL
import Derived.Deep.RegionHeld3
import Derived.Deep.RegionWith
set_option linter.unusedVariables false
set_option linter.unusedSimpArgs false
namespace Go.Sg
open Go.RowKit
theorem only_own {a b c : World} {g : Nat} {v : Value} (h : a.grownBy b (some g)) (k : b.grownBy c v.ownBlock) (hv : ∀ x, v.ownBlock = some x → x = g ∨ a.heap.size ≤ x) : a.grownBy c (some g) :=
  ⟨k.os.trans h.os, k.tape.trans h.tape, k.output.trans h.output, Nat.le_trans h.size k.size, fun i hi hne => (k.block i (Nat.lt_of_lt_of_le hi h.size) (fun e => by
    rcases hv i e.symm with rfl | hg
    · exact hne rfl
    · omega)).trans (h.block i hi hne)⟩
theorem own_block (w : World) (v : Value) : ∃ g, (∀ x, v.ownBlock = some x → x = g) ∧ (g = w.heap.size ∨ v.ownBlock = some g) := by
  cases h : v.ownBlock with
  | none => exact ⟨w.heap.size, by simp, .inl rfl⟩
  | some x => exact ⟨x, fun y hy => (Option.some.inj hy).symm, .inr rfl⟩
end Go.Sg
namespace Go.Proofs.YtiiedgbdooamaaaDoor
open Go.RowKit Go.Sg

set_option maxHeartbeats 8000000 in
set_option maxRecDepth 100000 in
theorem HmacSums_c (h : Int) (a a' : Option Addr) (cap cap' : Nat) (k d : List Int) (w : World) (hx : Sl .u8 w a cap k) (ux : U8 k) (hy : Sl .u8 w a' cap' d) (uy : U8 d) (hz : k.length + d.length ≤ 1048576) (ht : ShaTabs w) (hr : RefTabs w) :
    Calls Tryd.prog 8 #[.int .i64 h, .slice a k.length cap, .slice a' d.length cap'] w (TruePost w) := by
  have hx0 := hx
  have hy0 := hy
  have ht0 := ht
  have hr0 := hr
  go_enter Tryd.func8, Tryd.ntmps8
  have hB := Below.refl w.heap.size w
  go_wp2_with fail
  refine (marked_c a cap k _ hx (by omega)).mono ?_; rintro e w1 ⟨gK, cK, rfl, hgK, pK, hb⟩
  have hgKlt := pK.lt
  have zs1 := hb.size
  replace hx := hx.below hb
  replace hy := hy.below hb
  replace ht := ht.below hb
  replace hr := hr.below hb
  replace hB := hB.trans (hb.mono hB.size)
  clear hb
  obtain ⟨nK, hnK⟩ : ∃ n, n = (k ++ marks 200).length := ⟨_, rfl⟩
  rw [← hnK]
  have HNK := Lib.hid hnK
  clear hnK
  go_wp2_with fail
  refine (marked_c a' cap' d _ hy (by omega)).mono ?_; rintro e w2 ⟨gD, cD, rfl, hgD, pD, hb⟩
  have zs2 := hb.size
  replace hx := hx.below hb
  replace hy := hy.below hb
  replace ht := ht.below hb
  replace hr := hr.below hb
  replace pK := pK.keep hb
  replace hB := hB.trans (hb.mono hB.size)
  clear hb
  obtain ⟨nD, hnD⟩ : ∃ n, n = (d ++ marks 200).length := ⟨_, rfl⟩
  rw [← hnD]
  have HND := Lib.hid hnD
  clear hnD
  have lK := pK.le
  have lD := pD.le
  rw [List.length_append] at lK lD
  have gKlt : gK < w1.heap.size ∧ w.heap.size ≤ gK := ⟨hgKlt, hgK⟩
  have gDge : w1.heap.size ≤ gD := hgD
  have gDw : w.heap.size ≤ gD := by omega
  have gDlt := pD.lt
  have hcK := fun W => cut_h0 (P := Tryd.prog) W 29 5 Tryd.underlying29 size8 (some ⟨gK, 0, none⟩) nK cK k.length (by omega)
  have hcD := fun W => cut_h0 (P := Tryd.prog) W 29 5 Tryd.underlying29 size8 (some ⟨gD, 0, none⟩) nD cD d.length (by omega)
  clear hgK hgD
  go_wp2_with fail
  go_still_tail 9, (by kernel_rfl)
  change wpList _ _ _ _ _ w2.drew
  obtain ⟨w3, hw3⟩ : ∃ x : World, x = w2.drew := ⟨_, rfl⟩
  rw [← hw3]
  have hb : Below w2.heap.size w2 w3 := by rw [hw3]; exact (Below.refl _ _).drew
  have zs3 := hb.size
  replace hx := hx.below hb
  replace hy := hy.below hb
  replace ht := ht.below hb
  replace hr := hr.below hb
  replace pK := pK.keep hb
  replace pD := pD.keep hb
  replace hB := hB.trans (hb.mono hB.size)
  clear hb hw3
  go_wp2_with fail
  refine (Hmac_c h (some ⟨gK, 0, none⟩) (some ⟨gD, 0, none⟩) cK cD k d _ pK.window pD.window ux uy (by omega) (by omega) ht).mono ?_; rintro e w4 ⟨vA, rfl, nA, hb⟩
  have zs4 := hb.size
  replace hx := hx.below hb
  replace hy := hy.below hb
  replace ht := ht.below hb
  replace hr := hr.below hb
  replace pK := pK.keep hb
  replace pD := pD.keep hb
  replace hB := hB.trans (hb.mono hB.size)
  have hbA := hb
  clear hb
  obtain ⟨aA, cA, rfl, sA⟩ := nA.sl
  obtain ⟨zA, hA⟩ : ∃ z, z = hmac h k d := ⟨_, rfl⟩
  rw [← hA] at sA ⊢
  have uA : U8 zA := by rw [hA]; exact hmac_u8 _ _ _
  have eA := Lib.hid hA
  clear hA
  rw [← eA.out] at nA
  have ltA := nA.lt
  clear hbA
  have apA : ∀ g, (Value.slice aA zA.length cA).ownBlock = some g → w3.heap.size ≤ g ∧ g < w4.heap.size := ltA
  clear ltA
  go_wp2_with fail
  go_still_tail 9, (by kernel_rfl)
  change wpList _ _ _ _ _ w4.drew
  obtain ⟨w5, hw5⟩ : ∃ x : World, x = w4.drew := ⟨_, rfl⟩
  rw [← hw5]
  have hb : Below w4.heap.size w4 w5 := by rw [hw5]; exact (Below.refl _ _).drew
  have zs5 := hb.size
  replace hx := hx.below hb
  replace hy := hy.below hb
  replace ht := ht.below hb
  replace hr := hr.below hb
  replace pK := pK.keep hb
  replace pD := pD.keep hb
  replace nA := nA.keep hb
  replace hB := hB.trans (hb.mono hB.size)
  clear hb hw5
  go_wp2_with fail
  refine (Hmac_c h (some ⟨gK, 0, none⟩) (some ⟨gD, 0, none⟩) cK cD k d _ pK.window pD.window ux uy (by omega) (by omega) ht).mono ?_; rintro e w6 ⟨vB, rfl, nB, hb⟩
  have zs6 := hb.size
  replace hx := hx.below hb
  replace hy := hy.below hb
  replace ht := ht.below hb
  replace hr := hr.below hb
  replace pK := pK.keep hb
  replace pD := pD.keep hb
  replace nA := nA.keep hb
  replace hB := hB.trans (hb.mono hB.size)
  have hbB := hb
  clear hb
  obtain ⟨aB, cB, rfl, sB⟩ := nB.sl
  obtain ⟨zB, hB⟩ : ∃ z, z = hmac h k d := ⟨_, rfl⟩
  rw [← hB] at sB ⊢
  have uB : U8 zB := by rw [hB]; exact hmac_u8 _ _ _
  have eB := Lib.hid hB
  clear hB
  have farB := nB.far
  clear nB hbB
  go_wp2_with fail
  refine (rHmac_c h a a' cap cap' k d _ hx hy ux uy (by omega) hr).mono ?_; rintro e w7 ⟨vW, rfl, nW, hb⟩
  have zs7 := hb.size
  replace hx := hx.below hb
  replace hy := hy.below hb
  replace ht := ht.below hb
  replace hr := hr.below hb
  replace pK := pK.keep hb
  replace pD := pD.keep hb
  replace nA := nA.keep hb
  replace sB := sB.below hb
  replace hB := hB.trans (hb.mono hB.size)
  have hbW := hb
  clear hb
  obtain ⟨aW, cW, rfl, sW⟩ := nW.sl
  obtain ⟨zW, hW⟩ : ∃ z, z = hmac h k d := ⟨_, rfl⟩
  rw [← hW] at sW ⊢
  have uW : U8 zW := by rw [hW]; exact hmac_u8 _ _ _
  have eW := Lib.hid hW
  clear hW
  have farW := nW.far
  clear nW hbW
  have eAW : Hid (zA = zW) := Lib.hid (by rw [eA.out, eW.out])
  have eBW : Hid (zB = zW) := Lib.hid (by rw [eB.out, eW.out])
  obtain ⟨aA1, cA1, eqA, sA⟩ := nA.sl
  obtain ⟨rfl, rfl⟩ : aA = aA1 ∧ cA = cA1 := by simp only [Value.slice.injEq] at eqA; exact ⟨eqA.1, eqA.2.2⟩
  clear eqA
  go_wp2_with fail
  refine (same5_c _ _ _ _ _ _ _ sA sW uA uW).mono ?_; rintro e w8 ⟨rfl, hb⟩
  have zs8 := hb.size
  replace hx := hx.below hb
  replace hy := hy.below hb
  replace ht := ht.below hb
  replace hr := hr.below hb
  replace pK := pK.keep hb
  replace pD := pD.keep hb
  replace nA := nA.keep hb
  replace sB := sB.below hb
  replace sW := sW.below hb
  replace sA := sA.below hb
  replace hB := hB.trans (hb.mono hB.size)
  clear hb
  rw [show decide (zA = zW) = true from decide_eq_true eAW.out]
  have ck := whole_c gK a cK cap k _ pK hx ux (by omega)
  rw [← HNK.out] at ck
  go_wp2_with fail
  refine (ck).mono ?_; rintro e w9 ⟨rfl, hb⟩
  have zs9 := hb.size
  replace hx := hx.below hb
  replace hy := hy.below hb
  replace ht := ht.below hb
  replace hr := hr.below hb
  replace pK := pK.keep hb
  replace pD := pD.keep hb
  replace nA := nA.keep hb
  replace sB := sB.below hb
  replace sW := sW.below hb
  replace sA := sA.below hb
  replace hB := hB.trans (hb.mono hB.size)
  clear hb
  clear ck
  have ck := whole_c gD a' cD cap' d _ pD hy uy (by omega)
  rw [← HND.out] at ck
  go_wp2_with fail
  refine (ck).mono ?_; rintro e w10 ⟨rfl, hb⟩
  have zs10 := hb.size
  replace hx := hx.below hb
  replace hy := hy.below hb
  replace ht := ht.below hb
  replace hr := hr.below hb
  replace pK := pK.keep hb
  replace pD := pD.keep hb
  replace nA := nA.keep hb
  replace sB := sB.below hb
  replace sW := sW.below hb
  replace sA := sA.below hb
  replace hB := hB.trans (hb.mono hB.size)
  clear hb
  clear ck
  clear sA
  have bA5 : w3.heap.size ≤ w10.heap.size := by omega
  obtain ⟨gA, hgA, hgA2⟩ := own_block w10 (.slice aA zA.length cA)
  have gAge : w2.heap.size ≤ gA ∧ w.heap.size ≤ gA ∧ gA ≠ gK ∧ gA ≠ gD := by
    rcases hgA2 with e | e
    · omega
    · have := (apA gA e).1; omega
  have apB : ∀ b off, aB = some ⟨b, off, none⟩ → 0 < zB.length → b ≠ gA := fun b off hb hp e => by
    have h1 := farB b off hb
    have h2 := sB.cells
    obtain ⟨b', o', h3, h4⟩ := h2 hp
    rw [hb] at h3
    cases h3
    have h5 := World.block_lt_of_cell? _ _ (h4 0 hp)
    simp only at h5
    rcases hgA2 with e2 | e2
    · omega
    · have := (apA gA e2).2; omega
  have apW : ∀ b off, aW = some ⟨b, off, none⟩ → 0 < zW.length → b ≠ gA := fun b off hb hp e => by
    have h1 := farW b off hb
    obtain ⟨b', o', h3, h4⟩ := sW.cells hp
    rw [hb] at h3
    cases h3
    have h5 := World.block_lt_of_cell? _ _ (h4 0 hp)
    simp only at h5
    rcases hgA2 with e2 | e2
    · omega
    · have := (apA gA e2).2; omega
  obtain ⟨n, hn⟩ : ∃ n, n = zA.length := ⟨_, rfl⟩
  rw [← hn] at nA hgA ⊢
  have HN := Lib.hid hn
  have n64 : n ≤ 64 := by
    have := shaSize_le h
    rw [hn, eA.out]
    by_cases hh : IsHash h
    · rw [hmac_len hh]; omega
    · rw [hmac_no hh]; simp
  obtain ⟨vA, hvA⟩ : ∃ v, v = Value.slice aA n cA := ⟨_, rfl⟩
  rw [← hvA] at nA hgA
  have HVA := Lib.hid hvA
  have gb : w3.heap.size ≤ gA ∨ n = 0 := by
    rcases Nat.eq_zero_or_pos n with e | e
    · exact .inr e
    · obtain ⟨g, cp, hv, hB2, _⟩ := nA.pre (by rw [← hn]; exact e)
      have : g = gA := hgA g (by rw [hv]; rfl)
      exact .inl (by omega)
  clear hn hgA2 farB farW apA hvA zs1 zs2 zs3 zs4 zs5 zs6 zs7 zs8 zs9 zs10
  go_wp2_with fail
  go_loopw [12] (fun t wr => ∃ (i : Nat) (z : List Int), i ≤ n ∧ t = .int .i64 (i : Int) ∧ z.length = n ∧ U8 z ∧ New w3.heap.size .u8 5 wr vA z ∧ w10.grownBy wr (some gA)) (fun t _ => n - (intOf t).toNat)
  case atStart => exact ⟨0, zA, by omega, rfl, HN.out.symm, uA, nA, rfl, rfl, rfl, Nat.le_refl _, fun _ _ _ => rfl⟩
  case round =>
    clear nA
    obtain ⟨i, z, hi, rfl, hzl, hu, hv, hg⟩ := hrel
    have HZL := Lib.hid hzl
    by_cases hlt : i < n
    · obtain ⟨g, cp, hve, hB2, hp⟩ := hv.pre (by omega)
      have hgg : g = gA := hgA g (by rw [hve]; rfl)
      subst hgg
      rw [HVA.out] at hve
      simp only [Value.slice.injEq] at hve
      obtain ⟨rfl, hnz, rfl⟩ := hve
      have c0 := hp.cell i (by omega)
      have f0 := hp.free i
      obtain ⟨y, hy1⟩ : ∃ y, y = IntKind.u8.wrap (nth z i + 1) := ⟨_, rfl⟩
      have hyw : IntKind.u8.wrap (nth z i + 1) = y := hy1.symm
      have hym : (nth z i + 1) % 256 = y := by rw [hy1, IntKind.wrap_u8']
      have y0 : 0 ≤ y ∧ y ≤ 255 := by rw [hy1, IntKind.wrap_u8']; omega
      obtain ⟨x, hx1⟩ : ∃ x, x = nth z i := ⟨_, rfl⟩
      rw [← hx1] at c0 hyw hym
      have hp2 := hp.set i y
      have hv2 : New w3.heap.size .u8 5 (wr.setCell ⟨g, i, none⟩ (.int .u8 y)) vA (z.set i y) := by
        have := hp2.new hB2
        rw [List.length_set, hzl] at this
        rw [HVA.out]; exact this
      have hg2 := only_setCell (p := ⟨g, i, none⟩) hg (.inl rfl) (.int .u8 y)
      have hin : (i : Int) < (n : Int) := by omega
      have hd1 : decide ((i : Int) < (n : Int)) = true := decide_eq_true hin
      have hz2 : Hid ((z.set i y).length = n) := Lib.hid (by rw [List.length_set, hzl])
      have hu2 := InR.set hu i y0.1 y0.2
      clear hp hg hv hy1 hx1 hnz hzl hp2
      go_wp2_with fail
      go_roundw
      case rel => exact ⟨i + 1, _, by omega, by go_num, hz2.out, hu2, hv2, hg2⟩
      case measure => simp [intOf]; omega
    · obtain rfl : n = i := by omega
      have hd1 : decide ((n : Int) < (n : Int)) = false := by simp
      have hown0 : ∀ x, (Value.slice aA n cA).ownBlock = some x → x = gA ∨ w10.heap.size ≤ x := fun x hx => .inl (hgA x (by rw [HVA.out]; exact hx))
      have hv0 : New w3.heap.size .u8 5 wr (.slice aA n cA) z := by rw [← HVA.out]; exact hv
      have zl0 : z.length = n + 0 := hzl
      clear hv hzl HZL
      go_wp2_with fail
      go_loopw [13, 14] (fun v t wr => ∃ (i : Nat) (z : List Int), i ≤ 200 ∧ t = .int .i64 (i : Int) ∧ z.length = n + i ∧ New w3.heap.size .u8 5 wr v z ∧ (∀ x, v.ownBlock = some x → x = gA ∨ w10.heap.size ≤ x) ∧ w10.grownBy wr (some gA)) (fun _ t _ => 200 - (intOf t).toNat)
      case atStart => exact ⟨0, z, by omega, rfl, zl0, hv0, hown0, hg⟩
      case round =>
        clear hv0 zl0 hown0 hg hu hd1 hlt hi
        obtain ⟨i, z, hi, rfl, hzl, hv, hown, hg⟩ := hrel
        have HZL := Lib.hid hzl
        clear hzl
        have hgs := hg.size
        have hb5 := bA5
        by_cases hlt : i < 200
        · have hd1 : decide ((i : Int) < 200) = true := decide_eq_true (by omega)
          go_wp2_with (at_builtin; refine wpList_append_new _ rfl _ _ 29 rfl w3.heap.size 5 .u8 1 Tryd.underlying29 info8s _ _ rfl (hv.alloc _) _ _ 1 [99] rfl rfl (cells_one _ _ _ _ _ rfl) (by rw [HZL.out]; simp; omega) (by rw [HZL.out]; simp; omega) (by simp; omega) ?_)
          intro v' w' hv' hg' hw'
          have hg2 := only_own (only_alloc hg _) hg' hown
          have hown2 : ∀ x, v'.ownBlock = some x → x = gA ∨ w10.heap.size ≤ x := by
            intro x hx
            rcases hw' with e | ⟨y, e, hy⟩
            · exact hown x (by rw [← e]; exact hx)
            · rw [e] at hx
              cases hx
              exact .inr (by omega)
          have hz2 : Hid ((z ++ [99]).length = n + (i + 1)) := Lib.hid (by rw [List.length_append, HZL.out]; rfl)
          clear hv hg hg' hw' hown
          go_wp2_with fail
          go_roundw
          case rel => exact ⟨i + 1, _, by omega, by go_num, hz2.out, hv', hown2, hg2⟩
          case measure => simp [intOf]; omega
        · obtain rfl : i = 200 := by omega
          rw [show ((200 : Nat) : Int) = 200 from rfl]
          obtain ⟨aX, cX, rfl, sX⟩ := hv.sl
          obtain ⟨l2, hl2⟩ : ∃ l, l = z.length := ⟨_, rfl⟩
          rw [← hl2]
          obtain ⟨nW, hnW⟩ : ∃ l, l = zW.length := ⟨_, rfl⟩
          have nwb : nW ≤ 64 := by
            have h2 := congrArg List.length eAW.out
            have h3 := HN.out
            omega
          obtain rfl : l2 = nW + 200 := by
            have h1 := HZL.out
            have h2 := congrArg List.length eAW.out
            have h3 := HN.out
            omega
          have hne : ((nW : Int) + 200 != (nW : Int) + 200) = false := by simp
          have hBr := below_then hB hg gAge.2.1 hB.size
          have hxr := hx0.below hBr
          have hyr := hy0.below hBr
          have htr := ht0.below hBr
          have hrr := hr0.below hBr
          have pKr := pK.grown hg (by simp; omega)
          have pDr := pD.grown hg (by simp; omega)
          have sBr := sB.grown' hg (fun b off ha hp e => apB b off ha hp (Option.some.inj e))
          have sWr := sW.grown' hg (fun b off ha hp e => apW b off ha hp (Option.some.inj e))
          have cm := same5_c _ _ _ _ _ _ _ sBr sWr uB uW
          rw [show decide (zB = zW) = true from decide_eq_true eBW.out, ← hnW] at cm
          rw [← hnW]
          clear hnW hl2 sX hv hown hg sB sW pK pD hx hy ht hr hB hgs
          go_wp2_with fail
          refine cm.mono ?_; rintro e wa ⟨rfl, hb⟩
          clear cm sBr sWr
          have hB := hBr
          clear hBr
          have zs11 := hb.size
          replace hxr := hxr.below hb
          replace hyr := hyr.below hb
          replace htr := htr.below hb
          replace hrr := hrr.below hb
          replace pKr := pKr.keep hb
          replace pDr := pDr.keep hb
          replace hB := hB.trans (hb.mono hB.size)
          clear hb
          have ck := whole_c gK a cK cap k _ pKr hxr ux (by omega)
          rw [← HNK.out] at ck
          go_wp2_with fail
          refine (ck).mono ?_; rintro e w12 ⟨rfl, hb⟩
          have zs12 := hb.size
          replace hxr := hxr.below hb
          replace hyr := hyr.below hb
          replace htr := htr.below hb
          replace hrr := hrr.below hb
          replace pKr := pKr.keep hb
          replace pDr := pDr.keep hb
          replace hB := hB.trans (hb.mono hB.size)
          clear hb
          clear ck
          have ck := whole_c gD a' cD cap' d _ pDr hyr uy (by omega)
          rw [← HND.out] at ck
          go_wp2_with fail
          refine (ck).mono ?_; rintro e w13 ⟨rfl, hb⟩
          have zs13 := hb.size
          replace hxr := hxr.below hb
          replace hyr := hyr.below hb
          replace htr := htr.below hb
          replace hrr := hrr.below hb
          replace pKr := pKr.keep hb
          replace pDr := pDr.keep hb
          replace hB := hB.trans (hb.mono hB.size)
          clear hb
          clear ck
          clear hxr hyr htr hrr
          go_wp2_with fail
          refine (turned_c gK cK k (marks 200) _ pKr ux (by omega)).mono ?_; rintro e w14 ⟨z1, rfl, lz1, uz1, pz1, hg⟩
          have qz1 := pDr.grown hg (by simp; omega)
          replace hB := below_then hB hg (gKlt.2) hB.size
          have Lz1 := Lib.hid lz1
          clear pKr pDr hg lz1
          go_wp2_with fail
          refine (turned_c gD cD d (marks 200) _ qz1 uy (by omega)).mono ?_; rintro e w15 ⟨z2, rfl, lz2, uz2, pz2, hg⟩
          have qz2 := pz1.grown hg (by simp; omega)
          replace hB := below_then hB hg (gDw) hB.size
          have Lz2 := Lib.hid lz2
          clear qz1 pz1 hg lz2
          have sK := qz2.window
          have sD := pz2.window
          have kz1 := Lz1.out
          have kz2 := Lz2.out
          have htz := ht0.below hB
          have hrz := hr0.below hB
          have cpK := fun W (hw : Below w15.heap.size w15 W) => copied5_c _ _ z1 W (sK.below hw) (by omega)
          rw [kz1] at cpK
          have cpD := fun W (hw : Below w15.heap.size w15 W) => copied5_c _ _ z2 W (sD.below hw) (by omega)
          rw [kz2] at cpD
          have cH := fun W (hw : Below w15.heap.size w15 W) => Hmac_c h (some ⟨gK, 0, none⟩) (some ⟨gD, 0, none⟩) cK cD z1 z2 W (sK.below hw) (sD.below hw) uz1 uz2 (by omega) (by omega) (htz.below hw)
          rw [kz1, kz2] at cH
          clear kz1 kz2
          go_wp2_with fail
          go_region_held3 (fun w' => True) (trivial)
            (first
              | (go_at_call_of 45 (Value.slice (some ⟨gK, 0, none⟩) k.length cK); refine (cpK _ (by first | exact (Below.refl _ _).drew | exact HD)).mono ?_; rintro e wk ⟨v1, rfl, nK1, hbK⟩; obtain ⟨aK1, cK1, rfl, sK1⟩ := nK1.sl; (have HK : Below w15.heap.size w15 wk := by first | exact (Below.refl w15.heap.size w15).drew.trans hbK | exact HD.trans (hbK.mono HD.size)))
              | (go_at_call_of 45 (Value.slice (some ⟨gD, 0, none⟩) d.length cD); refine (cpD _ (by first | exact (Below.refl _ _).drew | exact HK)).mono ?_; rintro e wd ⟨v2, rfl, nD1, hbD⟩; obtain ⟨aD1, cD1, rfl, sD1⟩ := nD1.sl; (have HD : Below w15.heap.size w15 wd := by first | exact (Below.refl w15.heap.size w15).drew.trans hbD | exact HK.trans (hbD.mono HK.size)))
              | (go_at_call 41; refine (rHmac_c h aK1 aD1 cK1 cD1 z1 z2 _ (by first | exact sK1 | exact sK1.below hbD) (by first | exact sD1 | exact sD1.below hbK) uz1 uz2 (by have := Lz1.out; have := Lz2.out; omega) (by first | exact hrz.below HD | exact hrz.below HK)).mono ?_; rintro e wn ⟨vN, rfl, nN, hbN⟩; obtain ⟨aN, cN, rfl, sN⟩ := nN.sl; (have HN : Below w15.heap.size w15 wn := by first | exact HD.trans (hbN.mono HD.size) | exact HK.trans (hbN.mono HK.size))))
          all_goals (clear hbN nN)
          · obtain ⟨zN, hzN⟩ : ∃ z, z = hmac h z1 z2 := ⟨_, rfl⟩
            rw [← hzN] at sN ⊢
            have uN : U8 zN := by rw [hzN]; exact hmac_u8 _ _ _
            have eN := Lib.hid hzN
            have HW := HN.drew
            clear hzN
            go_wp2_with fail
            go_still_tail 9, (by kernel_rfl)
            change wpList _ _ _ _ _ wn.drew
            go_wp2_with fail
            refine (cH _ HW).mono ?_; rintro e wc ⟨vC, rfl, nC, hbC⟩
            obtain ⟨aC, cC, rfl, sC⟩ := nC.sl
            obtain ⟨zC, hzC⟩ : ∃ z, z = hmac h z1 z2 := ⟨_, rfl⟩
            rw [← hzC] at sC ⊢
            have uC : U8 zC := by rw [hzC]; exact hmac_u8 _ _ _
            have eC : Hid (zC = zN) := Lib.hid (by rw [hzC, eN.out])
            have sN1 : Sl .u8 wc aN cN zN := (sN.drewN 1).below hbC
            have HC := HW.trans (hbC.mono HW.size)
            have hfin := hB.trans (HC.mono hB.size)
            clear nC hzC hbC
            go_wp2_with fail
            refine (same5_c _ _ _ _ _ _ _ sC sN1 uC uN).mono ?_; rintro e we ⟨rfl, hbe⟩
            rw [show decide (zC = zN) = true from decide_eq_true eC.out]
            have hfin2 := hfin.trans (hbe.mono hfin.size)
            go_wp2_with fail
            go_ret
            exact ⟨rfl, hfin2⟩
end Go.Proofs.YtiiedgbdooamaaaDoor
