/- signetlaw5.HmacOneKey, its walk. (Printed by gen_hmaconekey.py.) -/
import Derived.Test.YtiiedgbdooamaaaDoorHmacIsL
set_option linter.unusedVariables false
set_option linter.unusedSimpArgs false
namespace Go.Proofs.YtiiedgbdooamaaaDoor
open Go.RowKit Go.Sg

set_option maxHeartbeats 4000000 in
set_option maxRecDepth 20000 in
theorem HmacOneKey_c (h n : Int) (a a' : Option Addr) (cap cap' : Nat) (k d : List Int) (w : World) (hn : -9223372036854775808 ≤ n ∧ n ≤ 9223372036854775807) (hx : Sl .u8 w a cap k) (ux : U8 k) (hy : Sl .u8 w a' cap' d) (uy : U8 d) (hz : k.length + d.length ≤ 1048576) (ht : ShaTabs w) :
    Calls Tryd.prog 11 #[.int .i64 h, .slice a k.length cap, .slice a' d.length cap', .int .i64 n] w (TruePost w) := by
  go_enter Tryd.func11, Tryd.ntmps11
  have hB := Below.refl w.heap.size w
  go_wp2_with fail
  refine (started_c _ ht).mono ?_; rintro e w1 ⟨rfl, hb⟩
  replace hx := hx.below hb
  replace hy := hy.below hb
  replace ht := ht.below hb
  replace hB := hB.trans (hb.mono hB.size)
  clear hb
  go_wp2_with fail
  refine (Hmac_c h a a' cap cap' k d _ hx hy ux uy (by omega) (by omega) ht).mono ?_; rintro e w2 ⟨vT, rfl, nT, hb⟩
  replace hx := hx.below hb
  replace hy := hy.below hb
  replace ht := ht.below hb
  replace hB := hB.trans (hb.mono hB.size)
  clear hb
  obtain ⟨aT, cT, rfl, sT⟩ := nT.sl
  clear nT
  obtain ⟨zT, hT⟩ : ∃ z, z = hmac h k d := ⟨_, rfl⟩
  rw [← hT] at sT ⊢
  have uT : U8 zT := by rw [hT]; exact hmac_u8 _ _ _
  have eT := Lib.hid hT
  clear hT
  go_wp2_with fail
  refine (fill5_c h a cap k _ hx ux (by omega) ht).mono ?_; rintro e w3 ⟨vK, rfl, nK, hb⟩
  replace hx := hx.below hb
  replace hy := hy.below hb
  replace ht := ht.below hb
  replace sT := sT.below hb
  replace hB := hB.trans (hb.mono hB.size)
  clear hb
  obtain ⟨aK, cK, rfl, sK⟩ := nK.sl
  clear nK
  have kb : shaBlock h ≤ 128 := shaBlock_le h
  obtain ⟨zK, hK⟩ : ∃ z, z = key0 h k := ⟨_, rfl⟩
  rw [← hK] at sK ⊢
  have uK : U8 zK := by rw [hK]; exact key0_u8 ux
  have lK : zK.length ≤ 128 := by rw [hK]; rw [key0_len']; exact kb
  have eK := Lib.hid hK
  clear hK
  go_wp2_with fail
  refine (Hmac_c h _ a' _ cap' zK d _ sK hy uK uy (by omega) (by omega) ht).mono ?_; rintro e w4 ⟨vU, rfl, nU, hb⟩
  replace hx := hx.below hb
  replace hy := hy.below hb
  replace ht := ht.below hb
  replace sT := sT.below hb
  replace sK := sK.below hb
  replace hB := hB.trans (hb.mono hB.size)
  clear hb
  obtain ⟨aU, cU, rfl, sU⟩ := nU.sl
  clear nU
  obtain ⟨zU, hU⟩ : ∃ z, z = hmac h zK d := ⟨_, rfl⟩
  rw [← hU] at sU ⊢
  have uU : U8 zU := by rw [hU]; exact hmac_u8 _ _ _
  have eU := Lib.hid hU
  clear hU
  go_wp2_with fail
  refine (block5_c h _).mono ?_; rintro e w' ⟨rfl, rfl⟩
  by_cases hh : IsHash h
  · have hsb := hh.size_le
    have g0 : ((shaBlock h : Int) == 0) = false := beq_false_of_ne (by omega)
    obtain ⟨B, hB1⟩ : ∃ B, B = shaBlock h := ⟨_, rfl⟩
    have HB1 := Lib.hid hB1
    have bl := fun W => block5_c h W
    rw [← hB1] at g0 hsb kb bl ⊢
    clear hB1
    go_wp2_with fail
    refine (same5_c _ _ _ _ _ _ _ sT sU uT uU).mono ?_; rintro e w5 ⟨rfl, hb⟩
    replace hx := hx.below hb
    replace hy := hy.below hb
    replace ht := ht.below hb
    replace sT := sT.below hb
    replace sK := sK.below hb
    replace sU := sU.below hb
    replace hB := hB.trans (hb.mono hB.size)
    clear hb
    rw [show decide (zT = zU) = true from decide_eq_true (by rw [eT.out, eU.out, eK.out, hmac_key0 _ _ _ hh])]
    clear sK sU
    go_wp2_with fail
    refine (bl _).mono ?_; rintro e w' ⟨rfl, rfl⟩
    by_cases q1 : B < k.length
    · have d1 : decide ((B : Int) < (k.length : Int)) = true := decide_eq_true (by omega)
      go_wp2_with fail
      go_ret
      exact ⟨rfl, hB⟩
    have d1 : decide ((B : Int) < (k.length : Int)) = false := decide_eq_false (by omega)
    by_cases q2 : n < 0
    · have d2 : decide (n < 0) = true := decide_eq_true q2
      go_wp2_with fail
      go_ret
      exact ⟨rfl, hB⟩
    obtain ⟨N, rfl⟩ : ∃ N : Nat, n = (N : Int) := ⟨n.toNat, by omega⟩
    have d2 : decide ((N : Int) < 0) = false := decide_eq_false q2
    clear q2 hn
    go_wp2_with fail
    refine (bl _).mono ?_; rintro e w' ⟨rfl, rfl⟩
    by_cases q3 : (B : Int) - (k.length : Int) < (N : Int)
    · have d3 : decide ((B : Int) - (k.length : Int) < (N : Int)) = true := decide_eq_true q3
      go_wp2_with fail
      go_ret
      exact ⟨rfl, hB⟩
    have d3 : decide ((B : Int) - (k.length : Int) < (N : Int)) = false := decide_eq_false q3
    have q4 : k.length + N ≤ B := by omega
    clear q3 bl
    have nC0 : New w5.heap.size .u8 5 w5 (.slice none 0 0) (k.take 0) := .nil _ _ _ _
    go_wp2_with fail
    go_loopw [11, 12] (fun v t wr => ∃ i : Nat, i ≤ k.length ∧ t = .int .i64 (i : Int) ∧ New w5.heap.size .u8 5 wr v (k.take i) ∧ Below w5.heap.size w5 wr)
      (fun _ t _ => k.length - (intOf t).toNat)
    case atStart => exact ⟨0, by omega, rfl, nC0, .refl _ _⟩
    case round =>
      clear nC0
      obtain ⟨i, hi, rfl, hv, hb⟩ := hrel
      have hbs := hb.size
      obtain ⟨l, hl1⟩ : ∃ l, l = k.take i := ⟨_, rfl⟩
      rw [← hl1] at hv
      have HL : Hid (l.length ≤ 1048576) := Lib.hid (by rw [hl1]; simp; omega)
      have HL1 := Lib.hid hl1
      clear hl1
      by_cases hlt : i < k.length
      · have fin : Hid (l ++ [nth k i] = k.take (i + 1)) := Lib.hid (by rw [HL1.out]; exact (take_succ_nth _ _ hlt).symm)
        have hlp := hlt
        obtain ⟨b, off, eaa, hc⟩ := (hx.below hb).cells (by omega)
        subst eaa
        have c0 := hc i hlp
        clear hc hlp
        have hd1 : decide ((i : Int) < (k.length : Int)) = true := decide_eq_true (by omega)
        go_wp2_with (at_builtin; refine wpList_append_new _ rfl _ _ 29 rfl w5.heap.size 5 .u8 1 Tryd.underlying29 info8s _ _ rfl (hv.alloc _) _ _ 1 [nth k i] rfl rfl (cells_one _ _ _ _ _ rfl) (by have := HL.out; simp; omega) (by have := HL.out; simp; omega) (by simp; omega) ?_)
        intro v' w' hv' hg' _
        have hlt1 := fun g hg => (hv.lt g hg).1
        have hb' : Below w5.heap.size w5 w' := (hb.alloc hbs _).grown hg' (by simp; omega) hlt1
        rw [fin.out] at hv'
        clear hv hg' hb
        go_wp2_with fail
        go_roundw
        case rel => exact ⟨i + 1, by omega, by go_num, hv', hb'⟩
        case measure => simp [intOf]; omega
      · obtain rfl : k.length = i := by omega
        have hd1 : decide ((k.length : Int) < (k.length : Int)) = false := by simp
        have nD0 : New w5.heap.size .u8 5 wr u11 (k ++ List.replicate 0 0) := by
          have := HL1.out
          rw [List.take_length] at this
          rw [this] at hv
          simpa using hv
        obtain ⟨wo, hwo⟩ : ∃ wo : World, wo = wr := ⟨_, rfl⟩
        subst hwo
        clear HL HL1 hv l
        clear d1 hi hlt hd1 hbs
        go_wp2_with fail
        go_loopw [11, 13] (fun v t wr => ∃ i : Nat, i ≤ N ∧ t = .int .i64 (i : Int) ∧ New w5.heap.size .u8 5 wr v (k ++ List.replicate i 0) ∧ Below w5.heap.size w5 wr)
          (fun _ t _ => N - (intOf t).toNat)
        case atStart => exact ⟨0, by omega, rfl, nD0, hb⟩
        case round =>
          clear nD0 hb
          obtain ⟨i, hi, rfl, hv, hb⟩ := hrel
          have hbs := hb.size
          obtain ⟨l, hl1⟩ : ∃ l, l = k ++ List.replicate i 0 := ⟨_, rfl⟩
          rw [← hl1] at hv
          have HL : Hid (l.length ≤ 2097152) := Lib.hid (by rw [hl1]; simp; omega)
          have HL1 := Lib.hid hl1
          clear hl1
          by_cases hlt : i < N
          · have fin : Hid (l ++ [0] = k ++ List.replicate (i + 1) 0) := Lib.hid (by rw [HL1.out]; rw [List.replicate_succ', List.append_assoc])
            have hd1 : decide ((i : Int) < (N : Int)) = true := decide_eq_true (by omega)
            go_wp2_with (at_builtin; refine wpList_append_new _ rfl _ _ 29 rfl w5.heap.size 5 .u8 1 Tryd.underlying29 info8s _ _ rfl (hv.alloc _) _ _ 1 [0] rfl rfl (cells_one _ _ _ _ _ rfl) (by have := HL.out; simp; omega) (by have := HL.out; simp; omega) (by simp; omega) ?_)
            intro v' w' hv' hg' _
            have hlt1 := fun g hg => (hv.lt g hg).1
            have hb' : Below w5.heap.size w5 w' := (hb.alloc hbs _).grown hg' (by simp; omega) hlt1
            rw [fin.out] at hv'
            clear hv hg' hb
            go_wp2_with fail
            go_roundw
            case rel => exact ⟨i + 1, by omega, by go_num, hv', hb'⟩
            case measure => simp [intOf]; omega
          · obtain rfl : N = i := by omega
            have hd1 : decide ((N : Int) < (N : Int)) = false := by simp
            obtain ⟨wo, hwo⟩ : ∃ wo : World, wo = wr := ⟨_, rfl⟩
            subst hwo
            obtain ⟨aC, cC, rfl, sC⟩ := hv.sl
            have uC : U8 l := by rw [HL1.out]; exact ux.append (by omega) (InR.zeros (by omega) _)
            have lC : l.length ≤ 2097152 := HL.out
            clear HL hv
            replace hx := hx.below hb
            replace hy := hy.below hb
            replace ht := ht.below hb
            replace sT := sT.below hb
            replace hB := hB.trans (hb.mono hB.size)
            clear hb hd1 hi hlt
            go_wp2_with fail
            refine (Hmac_c h _ a' _ cap' l d _ sC hy uC uy (by omega) (by omega) ht).mono ?_; rintro e w6 ⟨vV, rfl, nV, hb⟩
            replace hx := hx.below hb
            replace hy := hy.below hb
            replace ht := ht.below hb
            replace sT := sT.below hb
            replace sC := sC.below hb
            replace hB := hB.trans (hb.mono hB.size)
            clear hb
            obtain ⟨aV, cV, rfl, sV⟩ := nV.sl
            clear nV
            obtain ⟨zV, hV⟩ : ∃ z, z = hmac h l d := ⟨_, rfl⟩
            rw [← hV] at sV ⊢
            have uV : U8 zV := by rw [hV]; exact hmac_u8 _ _ _
            have eV := Lib.hid hV
            clear hV
            go_wp2_with fail
            refine (same5_c _ _ _ _ _ _ _ sT sV uT uV).mono ?_; rintro e w7 ⟨rfl, hb⟩
            replace hx := hx.below hb
            replace hy := hy.below hb
            replace ht := ht.below hb
            replace sT := sT.below hb
            replace sC := sC.below hb
            replace sV := sV.below hb
            replace hB := hB.trans (hb.mono hB.size)
            clear hb
            rw [show decide (zT = zV) = true from decide_eq_true (by rw [eT.out, eV.out, HL1.out, hmac_noughts k d _ hh (by have := HB1.out; omega)])]
            go_wp2_with fail
            go_ret
            exact ⟨rfl, hB⟩
  · rw [shaBlock_no hh]
    have hT0 : zT = [] := by rw [eT.out, hmac_no hh]
    have hU0 : zU = [] := by rw [eU.out, hmac_no hh]
    subst hT0 hU0
    go_wp2_with fail
    go_ret
    exact ⟨rfl, hB⟩
end Go.Proofs.YtiiedgbdooamaaaDoor
