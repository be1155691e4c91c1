/- nat.Add, Sub, Mul, by their contracts. -/
import Derived.Test.YtnlmkikaaifcmaaNatC
import Derived.Test.YtnlmkikaaifcmaaBaseB
set_option linter.unusedVariables false
set_option linter.unusedSimpArgs false
namespace Go.Proofs.Ytnlmkikaaifcmaa
open Go.RowKit Go.Sg

set_option maxHeartbeats 2000000 in
theorem Add_c (a a' : Option Addr) (cap cap' : Nat) (xs ys : List Int) (w : World) (hc : Sl .u32 w a cap xs) (hc' : Sl .u32 w a' cap' ys) (ux : U32 xs) (uy : U32 ys) (hl : xs.length ≤ 35184372088832) (hl' : ys.length ≤ 35184372088832) :
    Calls Try.prog 19 #[.slice a xs.length cap, .slice a' ys.length cap'] w (NatPost (val xs + val ys) w) := by
  go_enter Try.func19, Try.ntmps19
  go_wp2_with fail
  refine (value_c a cap xs _ hc).mono ?_; rintro e w' ⟨rfl, rfl⟩
  go_wp2_with fail
  refine (value_c a' cap' ys _ hc').mono ?_; rintro e w' ⟨rfl, rfl⟩
  have hx := Sl.norm hc
  have hy := Sl.norm hc'
  have es : Hid (val (norm xs) + val (norm ys) = val xs + val ys) := Lib.hid (by rw [val_norm, val_norm])
  have vx := ux.norm
  have vy := uy.norm
  have hlx : (norm xs).length ≤ 35184372088832 := by rw [length_norm]; have := topz_le xs; omega
  have hly : (norm ys).length ≤ 35184372088832 := by rw [length_norm]; have := topz_le ys; omega
  clear ux uy
  generalize norm xs = x at *
  generalize norm ys = y at *
  by_cases hsw : x.length < y.length
  · go_wp2_with (at_make; refine wpList_make_blk _ rfl _ _ 22 rfl 25 .u32 4 Try.underlying22 info32 (y.length + 1) _ _ rfl rfl (by omega) (by omega) (by omega) (by omega) ?_)
    intro w1 hk1 hs1 hb1
    have HS := Lib.hid hs1
    obtain ⟨m, hm⟩ : ∃ m, m = y.length := ⟨_, rfl⟩
    have HM := Lib.hid hm
    have hYm : x.length ≤ m := by omega
    clear hs1 hm
    go_wp2_with fail
    go_loopw [8, 28] (fun c t wr => ∃ (i cn : Nat) (L : List Int), i ≤ y.length ∧ t = .int .i64 (i : Int) ∧ c = .int .u64 (cn : Int) ∧ cn ≤ 1 ∧ Blk wr w.heap.size .u32 25 L ∧ L.length = m + 1 ∧ U32 L ∧
        val (L.take i) + R ^ i * cn = val (y.take i) + val (x.take i) ∧ Below w.heap.size w wr)
      (fun _ t _ => y.length - (intOf t).toNat)
    case atStart => exact ⟨0, 0, _, by omega, rfl, rfl, by omega, hk1, by have := HM.out; simp; omega, .zeros (by omega) _, by simp [val], hb1⟩
    case round =>
      obtain ⟨i, cn, L, hi, rfl, rfl, hcn, hL, hLl, uL, hval, hb⟩ := hrel
      have HL := Lib.hid hLl
      have HV := Lib.hid hval
      clear hLl hval
      by_cases hlt : i < y.length
      · obtain ⟨bx, ox, rfl, hcc⟩ := hy.cells (by omega)
        have hcx := (hb.cell (World.block_lt_of_cell? w _ (hcc i hlt))).trans (hcc i hlt)
        have hcl := hL.cell i (by have := HL.out; have := HM.out; omega)
        have hfr := hL.free i
        have hxl := lb_lt vy i
        have hyl := lb_lt vx i
        have XC := Lib.hid (lb_cast vy i)
        have YC := Lib.hid (lb_cast vx i)
        rw [← XC.out] at hcx
        have hxi : ((lb y i : Nat) : Int) ≤ 4294967295 := by unfold R at hxl; omega
        have hyi : ((lb x i : Nat) : Int) ≤ 4294967295 := by unfold R at hyl; omega
        have hiL : i < L.length := by have := HL.out; have := HM.out; omega
        have him : (i : Int) < (m : Int) + 1 := by have := HM.out; omega
        have fin : ∀ (s : Nat), s = cn + lb y i + lb x i →
            (s / R ≤ 1 ∧ U32 (L.set i (((s % R : Nat) : Int))) ∧ val ((L.set i ((s % R : Nat) : Int)).take (i + 1)) + R ^ (i + 1) * (s / R) = val (y.take (i + 1)) + val (x.take (i + 1))) := by
          intro s hs
          refine ⟨?_, uL.set _ (by omega) (by unfold R; omega), ?_⟩
          · rw [hs]; unfold R at hxl hyl ⊢; omega
          · rw [val_take_set_succ _ _ _ hiL, val_take_next, val_take_next, Rpow_next, Int.toNat_natCast, hs]
            exact add_step HV.out
        have FIN := Lib.hid fin
        have hcni : (cn : Int) ≤ 1 := by omega
        clear hcc fin hiL hxl hyl
        by_cases hin : i < x.length
        · obtain ⟨by_, oy, rfl, hcc⟩ := hx.cells (by omega)
          have hcy := (hb.cell (World.block_lt_of_cell? w _ (hcc i hin))).trans (hcc i hin)
          rw [← YC.out] at hcy
          have s0 : Hid (((cn : Int) + (lb y i : Nat) + (lb x i : Nat)) % 4294967296 = (((cn + lb y i + lb x i) % R : Nat) : Int)) := Lib.hid (by unfold R; omega)
          have s1 : Hid (((cn : Int) + (lb y i : Nat) + (lb x i : Nat)) / 4294967296 = (((cn + lb y i + lb x i) / R : Nat) : Int)) := Lib.hid (by unfold R; omega)
          clear hcc
          go_wp2_with fail
          go_roundw
          case rel =>
            obtain ⟨f1, f2, f3⟩ := FIN.out _ rfl
            exact ⟨i + 1, (cn + lb y i + lb x i) / R, L.set i (((cn + lb y i + lb x i) % R : Nat) : Int), by omega, by go_num, by rw [s1.out], f1, by rw [s0.out]; exact hL.set _ _, by have := HL.out; simpa using this, f2, f3, hb.setCell (Nat.le_refl _) _⟩
          case measure => simp [intOf]; omega
        · have h0 : lb x i = 0 := by rw [lb, nth_out _ _ (by omega)]; rfl
          have H0 := Lib.hid h0
          have s0 : Hid (((cn : Int) + (lb y i : Nat)) % 4294967296 = (((cn + lb y i) % R : Nat) : Int)) := Lib.hid (by unfold R; omega)
          have s1 : Hid (((cn : Int) + (lb y i : Nat)) / 4294967296 = (((cn + lb y i) / R : Nat) : Int)) := Lib.hid (by unfold R; omega)
          clear h0
          go_wp2_with fail
          go_roundw
          case rel =>
            obtain ⟨f1, f2, f3⟩ := FIN.out (cn + lb y i) (by rw [H0.out]; rfl)
            exact ⟨i + 1, (cn + lb y i) / R, L.set i (((cn + lb y i) % R : Nat) : Int), by omega, by go_num, by rw [s1.out], f1, by rw [s0.out]; exact hL.set _ _, by have := HL.out; simpa using this, f2, f3, hb.setCell (Nat.le_refl _) _⟩
          case measure => simp [intOf]; omega
      · obtain rfl : i = y.length := by omega
        have hcl := hL.cell y.length (by have := HL.out; have := HM.out; omega)
        have hfr := hL.free y.length
        have hL' := hL.set y.length (cn : Int)
        have uL' : U32 (L.set y.length (cn : Int)) := uL.set _ (by omega) (by omega)
        have hlen' : Hid ((L.set y.length (cn : Int)).length = y.length + 1) := Lib.hid (by have := HL.out; have := HM.out; simp; omega)
        have hv : Hid (val (L.set y.length (cn : Int)) = val xs + val ys) := Lib.hid (by
          have e := val_take_set_succ L y.length (cn : Int) (by have := HL.out; have := HM.out; omega)
          rw [List.take_of_length_le (by rw [hlen'.out]; omega), Int.toNat_natCast] at e
          rw [e, HV.out, List.take_length, List.take_of_length_le (by have := HM.out; omega), ← es.out, Nat.add_comm])
        have HSL : Hid (Sl .u32 (wr.setCell ⟨w.heap.size, y.length, none⟩ (.int .u32 (cn : Int))) (some ⟨w.heap.size, 0, none⟩) (y.length + 1) (L.set y.length (cn : Int))) := Lib.hid (by
          have := hL'.sl_full (by rw [hlen'.out]; omega); rwa [hlen'.out] at this)
        have hcnm : (cn : Int) % 4294967296 = cn := by omega
        have him : (y.length : Int) < (y.length : Int) + 1 := by omega
        have hb' := hb.setCell (p := ⟨w.heap.size, y.length, none⟩) (Nat.le_refl _) (.int .u32 (cn : Int))
        have pc := proper_c _ _ _ _ HSL.out
        rw [hlen'.out] at pc
        clear hL uL hb
        go_wp2_with fail
        refine pc.mono ?_; rintro e w' ⟨rfl, rfl⟩
        go_wp2_with fail
        go_ret
        exact ⟨_, rfl, .of_blk hL' (Nat.le_refl _) uL' hv.out (by rw [hlen'.out]; omega), hb'⟩
  · go_wp2_with (at_make; refine wpList_make_blk _ rfl _ _ 22 rfl 25 .u32 4 Try.underlying22 info32 (x.length + 1) _ _ rfl rfl (by omega) (by omega) (by omega) (by omega) ?_)
    intro w1 hk1 hs1 hb1
    have HS := Lib.hid hs1
    obtain ⟨m, hm⟩ : ∃ m, m = x.length := ⟨_, rfl⟩
    have HM := Lib.hid hm
    have hYm : y.length ≤ m := by omega
    clear hs1 hm
    go_wp2_with fail
    go_loopw [8, 28] (fun c t wr => ∃ (i cn : Nat) (L : List Int), i ≤ x.length ∧ t = .int .i64 (i : Int) ∧ c = .int .u64 (cn : Int) ∧ cn ≤ 1 ∧ Blk wr w.heap.size .u32 25 L ∧ L.length = m + 1 ∧ U32 L ∧
        val (L.take i) + R ^ i * cn = val (x.take i) + val (y.take i) ∧ Below w.heap.size w wr)
      (fun _ t _ => x.length - (intOf t).toNat)
    case atStart => exact ⟨0, 0, _, by omega, rfl, rfl, by omega, hk1, by have := HM.out; simp; omega, .zeros (by omega) _, by simp [val], hb1⟩
    case round =>
      obtain ⟨i, cn, L, hi, rfl, rfl, hcn, hL, hLl, uL, hval, hb⟩ := hrel
      have HL := Lib.hid hLl
      have HV := Lib.hid hval
      clear hLl hval
      by_cases hlt : i < x.length
      · obtain ⟨bx, ox, rfl, hcc⟩ := hx.cells (by omega)
        have hcx := (hb.cell (World.block_lt_of_cell? w _ (hcc i hlt))).trans (hcc i hlt)
        have hcl := hL.cell i (by have := HL.out; have := HM.out; omega)
        have hfr := hL.free i
        have hxl := lb_lt vx i
        have hyl := lb_lt vy i
        have XC := Lib.hid (lb_cast vx i)
        have YC := Lib.hid (lb_cast vy i)
        rw [← XC.out] at hcx
        have hxi : ((lb x i : Nat) : Int) ≤ 4294967295 := by unfold R at hxl; omega
        have hyi : ((lb y i : Nat) : Int) ≤ 4294967295 := by unfold R at hyl; omega
        have hiL : i < L.length := by have := HL.out; have := HM.out; omega
        have him : (i : Int) < (m : Int) + 1 := by have := HM.out; omega
        have fin : ∀ (s : Nat), s = cn + lb x i + lb y i →
            (s / R ≤ 1 ∧ U32 (L.set i (((s % R : Nat) : Int))) ∧ val ((L.set i ((s % R : Nat) : Int)).take (i + 1)) + R ^ (i + 1) * (s / R) = val (x.take (i + 1)) + val (y.take (i + 1))) := by
          intro s hs
          refine ⟨?_, uL.set _ (by omega) (by unfold R; omega), ?_⟩
          · rw [hs]; unfold R at hxl hyl ⊢; omega
          · rw [val_take_set_succ _ _ _ hiL, val_take_next, val_take_next, Rpow_next, Int.toNat_natCast, hs]
            exact add_step HV.out
        have FIN := Lib.hid fin
        have hcni : (cn : Int) ≤ 1 := by omega
        clear hcc fin hiL hxl hyl
        by_cases hin : i < y.length
        · obtain ⟨by_, oy, rfl, hcc⟩ := hy.cells (by omega)
          have hcy := (hb.cell (World.block_lt_of_cell? w _ (hcc i hin))).trans (hcc i hin)
          rw [← YC.out] at hcy
          have s0 : Hid (((cn : Int) + (lb x i : Nat) + (lb y i : Nat)) % 4294967296 = (((cn + lb x i + lb y i) % R : Nat) : Int)) := Lib.hid (by unfold R; omega)
          have s1 : Hid (((cn : Int) + (lb x i : Nat) + (lb y i : Nat)) / 4294967296 = (((cn + lb x i + lb y i) / R : Nat) : Int)) := Lib.hid (by unfold R; omega)
          clear hcc
          go_wp2_with fail
          go_roundw
          case rel =>
            obtain ⟨f1, f2, f3⟩ := FIN.out _ rfl
            exact ⟨i + 1, (cn + lb x i + lb y i) / R, L.set i (((cn + lb x i + lb y i) % R : Nat) : Int), by omega, by go_num, by rw [s1.out], f1, by rw [s0.out]; exact hL.set _ _, by have := HL.out; simpa using this, f2, f3, hb.setCell (Nat.le_refl _) _⟩
          case measure => simp [intOf]; omega
        · have h0 : lb y i = 0 := by rw [lb, nth_out _ _ (by omega)]; rfl
          have H0 := Lib.hid h0
          have s0 : Hid (((cn : Int) + (lb x i : Nat)) % 4294967296 = (((cn + lb x i) % R : Nat) : Int)) := Lib.hid (by unfold R; omega)
          have s1 : Hid (((cn : Int) + (lb x i : Nat)) / 4294967296 = (((cn + lb x i) / R : Nat) : Int)) := Lib.hid (by unfold R; omega)
          clear h0
          go_wp2_with fail
          go_roundw
          case rel =>
            obtain ⟨f1, f2, f3⟩ := FIN.out (cn + lb x i) (by rw [H0.out]; rfl)
            exact ⟨i + 1, (cn + lb x i) / R, L.set i (((cn + lb x i) % R : Nat) : Int), by omega, by go_num, by rw [s1.out], f1, by rw [s0.out]; exact hL.set _ _, by have := HL.out; simpa using this, f2, f3, hb.setCell (Nat.le_refl _) _⟩
          case measure => simp [intOf]; omega
      · obtain rfl : i = x.length := by omega
        have hcl := hL.cell x.length (by have := HL.out; have := HM.out; omega)
        have hfr := hL.free x.length
        have hL' := hL.set x.length (cn : Int)
        have uL' : U32 (L.set x.length (cn : Int)) := uL.set _ (by omega) (by omega)
        have hlen' : Hid ((L.set x.length (cn : Int)).length = x.length + 1) := Lib.hid (by have := HL.out; have := HM.out; simp; omega)
        have hv : Hid (val (L.set x.length (cn : Int)) = val xs + val ys) := Lib.hid (by
          have e := val_take_set_succ L x.length (cn : Int) (by have := HL.out; have := HM.out; omega)
          rw [List.take_of_length_le (by rw [hlen'.out]; omega), Int.toNat_natCast] at e
          rw [e, HV.out, List.take_length, List.take_of_length_le (by have := HM.out; omega), ← es.out])
        have HSL : Hid (Sl .u32 (wr.setCell ⟨w.heap.size, x.length, none⟩ (.int .u32 (cn : Int))) (some ⟨w.heap.size, 0, none⟩) (x.length + 1) (L.set x.length (cn : Int))) := Lib.hid (by
          have := hL'.sl_full (by rw [hlen'.out]; omega); rwa [hlen'.out] at this)
        have hcnm : (cn : Int) % 4294967296 = cn := by omega
        have him : (x.length : Int) < (x.length : Int) + 1 := by omega
        have hb' := hb.setCell (p := ⟨w.heap.size, x.length, none⟩) (Nat.le_refl _) (.int .u32 (cn : Int))
        have pc := proper_c _ _ _ _ HSL.out
        rw [hlen'.out] at pc
        clear hL uL hb
        go_wp2_with fail
        refine pc.mono ?_; rintro e w' ⟨rfl, rfl⟩
        go_wp2_with fail
        go_ret
        exact ⟨_, rfl, .of_blk hL' (Nat.le_refl _) uL' hv.out (by rw [hlen'.out]; omega), hb'⟩
end Go.Proofs.Ytnlmkikaaifcmaa
