/- signetlaw6.lasts by its contract. (Printed by gen_nsh.py out of LogE.) -/
import Derived.Test.YtnlmkikaaifcmaaNsC
set_option linter.unusedVariables false
set_option linter.unusedSimpArgs false
namespace Go.Proofs.Ytnlmkikaaifcmaa
open Go.RowKit Go.Sg
theorem infoN8 : (Try.prog.info? 44).map (fun i => (i.zero, i.size, i.bytes)) = some (some (.slice none 0 0), 1, 24) := by kernel_rfl
/-- Two lists, laid in a row. -/
theorem lists2 {B : Nat} {w : World} {vx vy : Value} {xs ys : List Int} (nx : New B .u8 5 w vx xs) (ny : New B .u8 5 w vy ys) (ap : ∀ g, vx.ownBlock = some g → vy.ownBlock ≠ some g) (hB : B ≤ w.heap.size) :
    ∃ V A, Lists B .u8 5 44 (w.alloc (.cells #[vx, vy] 44)) (.slice (some ⟨w.heap.size, 0, none⟩) 2 2) 2 V A ∧ V 0 = vx ∧ V 1 = vy ∧ (A 0 = xs ∧ A 1 = ys) := by
  have al := (Below.refl w.heap.size w).alloc (Nat.le_refl _) (.cells #[vx, vy] 44)
  refine ⟨fun j => if j = 0 then vx else vy, fun j => if j = 0 then xs else ys, ⟨?_, ?_⟩, rfl, rfl, rfl, rfl⟩
  · refine .inr ⟨w.heap.size, 2, #[vx, vy], rfl, hB, Go.heap_alloc_new _ _, by simp, by simp, by omega, ?_⟩
    simp [List.range_succ]
  · refine ⟨fun i hi => ?_, fun i j hi hj hne g hg => ?_⟩
    · rcases (show i = 0 ∨ i = 1 by omega) with rfl | rfl
      · exact nx.keep al
      · exact ny.keep al
    · rcases (show i = 0 ∨ i = 1 by omega) with rfl | rfl <;> rcases (show j = 0 ∨ j = 1 by omega) with rfl | rfl
      · exact absurd rfl hne
      · exact ap g hg
      · exact fun h => ap g h hg
      · exact absurd rfl hne
/-- The two lists' blocks apart, all stays. -/
def LastPost (B : Nat) (vx vy : Value) (w : World) (e : Ending) (w' : World) : Prop := e = .returned (.bool true) ∧ ∃ V : Nat → Value, V 0 = vx ∧ V 1 = vy ∧ FrV V 2 w w' ∧ Below B w w'
set_option maxHeartbeats 16000000 in
set_option maxRecDepth 20000 in
theorem lasts_c {B : Nat} {w : World} {vx vy : Value} {xs ys : List Int} (nx : New B .u8 5 w vx xs) (ny : New B .u8 5 w vy ys) (ap : ∀ g, vx.ownBlock = some g → vy.ownBlock ≠ some g) (hx : xs.length ≤ 4294967296) (hy : ys.length ≤ 4294967296) (hB : B ≤ w.heap.size) :
    Calls Try.prog 28 #[vx, vy] w (LastPost B vx vy w) := by
  obtain ⟨f1, hf1⟩ : ∃ f : Nat → Int, f = fun (j : Nat) => 1 + (j : Int) := ⟨_, rfl⟩
  have HF1 : ∀ j, f1 j = 1 + (j : Int) := fun j => by rw [hf1]
  clear hf1
  obtain ⟨ax, cx, rfl, -⟩ := nx.sl
  obtain ⟨ay, cy, rfl, -⟩ := ny.sl
  obtain ⟨lx, hlx⟩ : ∃ l, l = xs.length := ⟨_, rfl⟩
  obtain ⟨ly, hly⟩ : ∃ l, l = ys.length := ⟨_, rfl⟩
  rw [← hlx] at nx ap hx ⊢
  rw [← hly] at ny ap hy ⊢
  have f0 := (FamV.zero B .u8 5 w (fun _ => undef) (fun _ => []))
  obtain ⟨V, A, hL, hV0, hV1, hA⟩ := lists2 nx ny ap hB
  have hA : ∀ j, j < 2 → (A j).length ≤ 4294967296 := fun j hj => by
    rcases (show j = 0 ∨ j = 1 by omega) with rfl | rfl
    · rw [hA.1]; omega
    · rw [hA.2]; omega
  obtain ⟨w0, hw0⟩ : ∃ x, x = w.alloc (.cells #[.slice ax lx cx, .slice ay ly cy] 44) := ⟨_, rfl⟩
  have fr0 : FrV V 2 w w0 := (FrV.refl V 2 w).below (by rw [hw0]; exact (Below.refl _ _).alloc (Nat.le_refl _) _)
  have be0 : Below B w w0 := by rw [hw0]; exact (Below.refl _ _).alloc hB _
  rw [← hw0] at hL
  obtain ⟨l, hl_⟩ : ∃ l : Option Addr, l = some ⟨w.heap.size, 0, none⟩ := ⟨_, rfl⟩
  have HW0 := Lib.hid hw0
  have HLL := Lib.hid hl_
  have FV := Lib.hid (And.intro hV0 hV1)
  rw [← hl_] at hL
  clear hw0 hl_ hV0 hV1 nx ny ap hx hy hlx hly f0
  have hL0 := hL.congr (A' := fillF f1 A 0 0) (fun j _ => (fillF_start f1 A j).symm)
  have LENS := Lib.hid hA
  have HBW := Lib.hid hB
  clear hL hA hB
  go_enter Try.func28, Try.ntmps28
  go_wp2_with fail
  rw [← HW0.out, ← HLL.out]
  go_loopw [6] (fun t wr => ∃ i : Nat, i ≤ 2 ∧ t = .int .i64 (i : Int) ∧ Lists B .u8 5 44 wr (.slice l 2 2) 2 V (fillF f1 A i 0) ∧ FrV V 2 w wr ∧ Below B w wr) (fun t _ => 2 - (intOf t).toNat)
  case atStart => exact ⟨0, by omega, rfl, hL0, fr0, be0⟩
  case round =>
    clear hL0 fr0 be0
    obtain ⟨i, hi, rfl, hL, hF, hB2⟩ := hrel
    by_cases hlt : i < 2
    · have hd : decide ((i : Int) < 2) = true := decide_eq_true (by omega)
      have hdn : decide (i < 2) = true := decide_eq_true hlt
      have hi10 : (i : Int) < 2 := by omega
      obtain ⟨zi, hzi⟩ : ∃ z, z = (A i).length := ⟨_, rfl⟩
      have HZI := Lib.hid hzi
      have zb : zi ≤ 4294967296 := by rw [hzi]; exact LENS.out i hlt
      obtain ⟨ai, ci, hVi, _, _⟩ := hL.fam.own hlt
      rw [fillF_len _ _ _ _ _ (by omega), ← hzi] at hVi
      have HV := Lib.hid hVi
      obtain ⟨w13, rfl⟩ : ∃ x, x = wr := ⟨_, rfl⟩
      clear hzi hVi hd
      have hd : decide ((i : Int) < 2) = true := decide_eq_true (by omega)
      go_wp2_with fail
      go_loopw [7] (fun t wr => ∃ k : Nat, k ≤ zi ∧ t = .int .i64 (k : Int) ∧ Lists B .u8 5 44 wr (.slice l 2 2) 2 V (fillF f1 A i k) ∧ FrV V 2 w wr ∧ Below B w wr) (fun t _ => zi - (intOf t).toNat)
      case atStart => exact ⟨0, by omega, rfl, hL, hF, hB2⟩
      case round =>
        clear hL hF hB2
        obtain ⟨k, hk, rfl, hL, hF, hB2⟩ := hrel
        obtain ⟨gl, rfl, cell⟩ := hL.row.place hlt
        rw [HV.out] at cell
        by_cases hkl : k < zi
        · have hdk : decide ((k : Int) < (zi : Int)) = true := decide_eq_true (by omega)
          have hkz : (k : Int) < (zi : Int) := by omega
          obtain ⟨g, c2, hv2, hfr, hcl, hg, hL2⟩ := hL.put (by decide) hlt (j := k) (by rw [fillF_len _ _ _ _ _ (by rw [← HZI.out]; omega), ← HZI.out]; exact hkl) (f1 i)
          rw [HV.out] at hv2
          simp only [Value.slice.injEq] at hv2
          obtain ⟨rfl, _, rfl⟩ := hv2
          have hL3 := hL2.congr (A' := fillF f1 A i (k + 1)) (fun j _ => fillF_step f1 A i k (by rw [← HZI.out]; exact hkl) j)
          have hF3 := hF.grown (grownBy_set _ ⟨g, k, none⟩ (.int .u8 (f1 i))) (fun g' hg' => .inr ⟨i, hlt, by cases hg'; rw [HV.out]; rfl⟩)
          have hB3 := hB2.setCell (p := ⟨g, k, none⟩) hg (.int .u8 (f1 i))
          rw [HF1 i] at hL3 hF3 hB3
          clear hL hL2 hF hB2
          go_wp2_with fail
          go_roundw
          case rel => exact ⟨k + 1, by omega, by go_num, hL3, hF3, hB3⟩
          case measure => simp [intOf]; omega
        · obtain rfl : zi = k := by omega
          have hdk : decide ((zi : Int) < (zi : Int)) = false := by simp
          have hL3 := hL.congr (A' := fillF f1 A (i + 1) 0) (fun j _ => by rw [HZI.out]; exact fillF_next f1 A i j)
          go_wp2_with fail
          go_roundw
          case rel => exact ⟨i + 1, by omega, by go_num, hL3, hF, hB2⟩
          case measure => simp [intOf]; omega
    · have hd : decide ((i : Int) < 2) = false := decide_eq_false (by omega)
      obtain rfl : i = 2 := by omega
      rw [show ((2 : Nat) : Int) = 2 from rfl]
      clear hd
      have hd : decide ((2 : Int) < 2) = false := by decide
      obtain ⟨A2, hA2⟩ : ∃ f : Nat → List Int, f = fun j => List.replicate (A j).length (1 + (j : Int)) := ⟨_, rfl⟩
      have hLA := hL.congr (A' := A2) (fun j hj => by unfold fillF; rw [if_pos hj, HF1, hA2])
      have HA2 := Lib.hid hA2
      have lA2 : Hid (∀ j, j < 2 → (A2 j).length ≤ 4294967296) := Lib.hid fun j hj => by rw [hA2]; simp only [List.length_replicate]; exact LENS.out j hj
      obtain ⟨w14, rfl⟩ : ∃ x, x = wr := ⟨_, rfl⟩
      obtain ⟨S, hS⟩ : ∃ x, x = w14.heap.size := ⟨_, rfl⟩
      have fm := hLA.fam.fam (S := S) (Nat.le_of_eq hS.symm)
      have fm0 := fm.congr (U' := V) (A' := A2) (X' := growF (fun j => 11 + (j : Int)) 70 0 0) (fun _ _ => rfl) (fun j _ => (growF_start _ _ j).symm) (fun _ _ => rfl)
      have rw0 := hLA.row
      have hSw : S ≤ w14.heap.size := Nat.le_of_eq hS
      have hwS : w.heap.size ≤ S := by rw [hS]; exact hF.1
      have LT := Lib.hid hLA.row.lt
      have HLS : Hid (∀ g, (Value.slice l 2 2).ownBlock = some g → g < S) := Lib.hid fun g hg => by rw [hS]; exact (LT.out g hg).2
      clear hL hLA fm hA2 hS LENS LT HF1
      go_wp2_with fail
      go_loopw [8, 9] (fun mo t wr => ∃ (j0 : Nat) (U : Nat → Value), j0 ≤ 2 ∧ t = .int .i64 (j0 : Int) ∧ Fam S B .u8 5 wr 2 V U A2 (growF (fun j => 11 + (j : Int)) 70 j0 0) ∧ Hid (∀ j, j0 ≤ j → U j = V j) ∧ NewV S 44 wr mo ((List.range j0).map U) ∧ NewV B 44 wr (.slice l 2 2) ((List.range 2).map V) ∧ FrV V 2 w wr ∧ Below B w wr ∧ S ≤ wr.heap.size) (fun _ t _ => 2 - (intOf t).toNat)
      case atStart => exact ⟨0, V, by omega, rfl, fm0, Lib.hid (fun _ _ => rfl), .nil _ _ _, rw0, hF, hB2, hSw⟩
      case round =>
        clear fm0 rw0 hF hB2 hSw hd
        obtain ⟨j0, U, hi, rfl, fm, hUV, hM, hR, hF, hB2, hSw⟩ := hrel
        obtain ⟨amo, cmo, rfl⟩ := hM.sl
        rw [List.length_map, List.length_range] at hM ⊢
        by_cases hlt : j0 < 2
        · have hd : decide ((j0 : Int) < 2) = true := decide_eq_true (by omega)
          have hdn : decide (j0 < 2) = true := decide_eq_true hlt
          have hi10 : (j0 : Int) < 2 := by omega
          obtain ⟨gl, rfl, cell⟩ := hR.place hlt
          obtain ⟨ai, ci, hVi, _, _⟩ := (fm.ext j0 hlt).sa
          rw [hVi] at cell
          obtain ⟨us, hus⟩ : ∃ us, us = (List.range j0).map U := ⟨_, rfl⟩
          rw [← hus] at hM
          have HUS := Lib.hid hus
          have lus : Hid (us.length = j0) := Lib.hid (by rw [hus]; simp)
          obtain ⟨w15, rfl⟩ : ∃ x, x = wr := ⟨_, rfl⟩
          clear hus
          go_wp2_with fail
          go_loopw [10, 11] (fun v t wr => ∃ (k : Nat) (U2 : Nat → Value), k ≤ 70 ∧ t = .int .i64 (k : Int) ∧ v = U2 j0 ∧ Fam S B .u8 5 wr 2 V U2 A2 (growF (fun j => 11 + (j : Int)) 70 j0 k) ∧ Hid (∀ j, j0 < j → U2 j = V j) ∧ Hid (∀ j, j < j0 → U2 j = U j) ∧ NewV S 44 wr (.slice amo j0 cmo) us ∧ NewV B 44 wr (.slice (some ⟨gl, 0, none⟩) 2 2) ((List.range 2).map V) ∧ FrV V 2 w wr ∧ Below B w wr ∧ S ≤ wr.heap.size) (fun _ t _ => 70 - (intOf t).toNat)
          case atStart => exact ⟨0, U, by omega, rfl, by rw [hUV.out j0 (Nat.le_refl _), hVi], fm, Lib.hid (fun j hj => hUV.out j (by omega)), Lib.hid (fun _ _ => rfl), hM, hR, hF, hB2, hSw⟩
          case round =>
            clear fm hM hR hF hB2 hSw cell
            obtain ⟨k, U2, hk, rfl, rfl, fm, hUV2, hUU, hM, hR, hF, hB2, hSw⟩ := hrel
            have ex := fm.ext j0 hlt
            obtain ⟨av, cv, hv, _⟩ := ex.nx.sl
            rw [growF_at] at hv
            obtain ⟨lv, hlv⟩ : ∃ x, x = (A2 j0 ++ List.replicate k (11 + (j0 : Int))).length := ⟨_, rfl⟩
            rw [← hlv] at hv
            have lvb : lv ≤ 4294967366 := by rw [hlv, List.length_append, List.length_replicate]; have := lA2.out j0 hlt; omega
            rw [hv]
            have HLV := Lib.hid hlv
            have HVV := Lib.hid hv
            have HOW := Lib.hid ex.own
            have HOL := Lib.hid ex.old
            clear hv hlv ex
            by_cases hkl : k < 70
            · have hdk : decide ((k : Int) < 70) = true := decide_eq_true (by omega)
              have al := (Below.refl wr.heap.size wr).alloc (Nat.le_refl _) (.cells #[.int .u8 (11 + (j0 : Int))] 5)
              have as1 : (wr.alloc (.cells #[.int .u8 (11 + (j0 : Int))] 5)).heap.size = wr.heap.size + 1 := by simp
              have fm1 := fm.keep al
              have hM1 := hM.keep al
              have hR1 := hR.keep al
              have hF1 := hF.below al
              have hB1 := hB2.trans (al.mono (Nat.le_trans HBW.out (Nat.le_trans hwS hSw)))
              have nx := (fm1.ext j0 hlt).nx
              rw [growF_at, HVV.out] at nx
              have hlen : (A2 j0 ++ List.replicate k (11 + (j0 : Int))).length ≤ 4294967366 := by rw [← HLV.out]; exact lvb
              have hBS : B ≤ wr.heap.size + 1 := by have := HBW.out; omega
              clear fm hM hR hF hB2
              go_wp2_with (at_builtin; refine wpList_append_keep _ rfl _ _ 44 rfl B 5 .u8 1 Try.underlying44 info8a _ _ rfl nx _ _ 1 [11 + (j0 : Int)] rfl rfl (cells_one _ _ _ _ _ rfl) (by simp only [List.length_singleton]; omega) (by simp only [List.length_singleton]; omega) (by rw [as1]; omega) ?_)
              intro u' w16 n1 n0 hg16 ho16
              have fm16 := fm1.append hlt (u' := u') (ys := [11 + (j0 : Int)]) (by rw [growF_at, List.append_assoc]; exact n1) (by rw [growF_at, HVV.out]; exact n0) (by rw [HVV.out]; exact hg16) (by rw [HVV.out, as1]; exact ho16) (by rw [as1]; omega)
              have fm17 := fm16.congr (U' := fun m => if m = j0 then u' else U2 m) (A' := A2) (X' := growF (fun j => 11 + (j : Int)) 70 j0 (k + 1)) (fun _ _ => rfl) (fun j _ => growF_step (fun j => 11 + (j : Int)) 70 j0 k j) (fun _ _ => rfl)
              have hM16 := hM1.keptN nx (by decide) hg16
              have hR16 := hR1.keptN nx (by decide) hg16
              have hF16 := hF1.grown hg16 (fun g hg => by
                rcases HOW.out g (by rw [HVV.out]; exact hg) with h1 | h1
                · exact .inr ⟨j0, hlt, h1⟩
                · exact .inl (by omega))
              have hB16 := hB1.grown hg16 (by rw [as1]; exact hBS) (fun g hg => (nx.lt g hg).1)
              have hz16 := hg16.size
              clear fm1 fm16 hM1 hR1 hF1 hB1 nx n1 n0 hg16 ho16 al
              go_wp2_with fail
              go_roundw
              case rel =>
                exact ⟨k + 1, fun m => if m = j0 then u' else U2 m, by omega, by go_num, by simp, fm17, Lib.hid (fun j hj => by simp only [show ¬ j = j0 by omega, if_false]; exact hUV2.out j hj), Lib.hid (fun j hj => by simp only [show ¬ j = j0 by omega, if_false]; exact hUU.out j hj), hM16, hR16, hF16, hB16, by omega⟩
              case measure => simp [intOf]; omega
            · obtain rfl : k = 70 := by omega
              rw [show ((70 : Nat) : Int) = 70 from rfl]
              have hdk : decide ((70 : Int) < 70) = false := by decide
              have fm2 := fm.congr (U' := U2) (A' := A2) (X' := growF (fun j => 11 + (j : Int)) 70 (j0 + 1) 0) (fun _ _ => rfl) (fun j _ => growF_next _ _ j0 j) (fun _ _ => rfl)
              have al := (Below.refl wr.heap.size wr).alloc (Nat.le_refl _) (.cells #[.slice av lv cv] 44)
              have as1 : (wr.alloc (.cells #[.slice av lv cv] 44)).heap.size = wr.heap.size + 1 := by simp
              have fm3 := fm2.keep al
              have hM3 := hM.keep al
              have hR3 := hR.keep al
              have hF3 := hF.below al
              have hB3 := hB2.trans (al.mono (Nat.le_trans HBW.out (Nat.le_trans hwS hSw)))
              have hBS : B ≤ wr.heap.size + 1 := by have := HBW.out; omega
              clear fm fm2 hM hR hF hB2 hkl
              go_wp2_with (at_builtin; refine wpList_append_newV _ rfl _ _ 68 rfl S 44 24 Try.underlying68 infoN8 _ us rfl hM3 _ 1 (.slice av lv cv) ⟨_, _, _, rfl⟩ rfl (cell_new1 _ _ _ _) (by rw [lus.out]; omega) (by rw [lus.out]; omega) (by rw [as1]; omega) ?_)
              intro mo' w17 hM17 hg17 ho17
              have hMl : ∀ g, (Value.slice amo j0 cmo).ownBlock = some g → S ≤ g := fun g hg => (hM3.lt g hg).1
              have fm17 := fm3.grown hg17 (fun j hj g hg e => by
                have h1 := ((fm3.ext j hj).old g hg).1
                have h2 := hMl g e.symm
                omega) (fun j hj g hg => hM3.aside' (fm3.ext j hj).nx (by decide) g hg)
              have hR17 := hR3.kept hg17 (.inr fun e => by
                have h2 := hMl gl (e.symm.trans rfl)
                have h3 := HLS.out gl rfl
                omega)
              have hF17 := hF3.grown hg17 (fun g hg => .inl (Nat.le_trans hwS (hMl g hg)))
              have hB17 := hB3.grown hg17 (by rw [as1]; exact hBS) (fun g hg => Nat.le_trans HBW.out (Nat.le_trans hwS (hMl g hg)))
              have hz17 := hg17.size
              have el : us ++ [Value.slice av lv cv] = (List.range (j0 + 1)).map U2 := by
                rw [range_push (V := U) (V' := U2) (v := .slice av lv cv) hUU.out HVV.out, ← HUS.out]
              rw [el] at hM17
              clear fm3 hM3 hR3 hF3 hB3 hg17 al
              go_wp2_with fail
              go_roundw
              case rel => exact ⟨j0 + 1, U2, by omega, by go_num, fm17, Lib.hid (fun j hj => hUV2.out j (by omega)), hM17, hR17, hF17, hB17, by omega⟩
              case measure => simp [intOf]; omega
        · have hd : decide ((j0 : Int) < 2) = false := decide_eq_false (by omega)
          obtain rfl : j0 = 2 := by omega
          rw [show ((2 : Nat) : Int) = 2 from rfl]
          clear hd
          have hd : decide ((2 : Int) < 2) = false := by decide
          obtain ⟨w18, rfl⟩ : ∃ x, x = wr := ⟨_, rfl⟩
          have FM := Lib.hid fm
          have ROWL : Hid (∀ ii, ii < 2 → ∃ g, l = some ⟨g, 0, none⟩ ∧ w18.cell? ⟨g, ii, none⟩ = some (V ii)) := Lib.hid fun ii hi => hR.place hi
          have ROWM : Hid (∀ ii, ii < 2 → ∃ g, amo = some ⟨g, 0, none⟩ ∧ w18.cell? ⟨g, ii, none⟩ = some (U ii)) := Lib.hid fun ii hi => hM.place hi
          have FF := Lib.hid hF
          have BB := Lib.hid hB2
          clear fm hM hR hUV hF hB2 hlt hi
          go_wp2_with fail
          go_loopw [12] (fun t wr => ∃ i : Nat, i ≤ 2 ∧ t = .int .i64 (i : Int) ∧ Dr w18 wr) (fun t _ => 2 - (intOf t).toNat)
          case atStart => exact ⟨0, by omega, rfl, .refl _⟩
          case round =>
            obtain ⟨i, hi, rfl, nd, rfl⟩ := hrel
            clear hd
            by_cases hlt : i < 2
            · have hd : decide ((i : Int) < 2) = true := decide_eq_true (by omega)
              have hi10 : (i : Int) < 2 := by omega
              have hdn : decide (i < 2) = true := decide_eq_true hlt
              obtain ⟨ai, ci, hVi, sV, -⟩ := (FM.out.ext i hlt).sa
              obtain ⟨au, cu, hUi, sU, -⟩ := (FM.out.ext i hlt).nx.at_own
              obtain ⟨li, hli⟩ : ∃ z, z = (A i).length := ⟨_, rfl⟩
              have eA2 : A2 i = List.replicate li (1 + (i : Int)) := by rw [HA2.out, hli]
              have eX : growF (fun j => 11 + (j : Int)) 70 2 0 i = List.replicate 70 (11 + (i : Int)) := by unfold growF; rw [if_pos hlt]
              have lib : li ≤ 4294967296 := by have := lA2.out i hlt; rw [eA2, List.length_replicate] at this; exact this
              rw [eA2, eX, List.length_append, List.length_replicate, List.length_replicate] at hUi
              rw [eA2, eX] at sU
              rw [eA2] at sV
              rw [eA2, List.length_replicate] at hVi
              obtain ⟨gl, hgl, cL⟩ := ROWL.out i hlt
              obtain ⟨gm, rfl, cM⟩ := ROWM.out i hlt
              rw [hVi] at cL
              rw [hUi] at cM
              subst hgl
              have SV := Lib.hid sV
              have SU := Lib.hid sU
              have b1 : ((1 + (i : Int)) != (1 + (i : Int))) = false := by simp
              have b2 : ((11 + (i : Int)) != (11 + (i : Int))) = false := by simp
              clear hVi hUi hli eA2 eX sV sU
              go_wp2_with fail
              go_loopw [13] (fun t wr => ∃ q : Nat, q ≤ li + 70 ∧ t = .int .i64 (q : Int) ∧ Dr w18 wr) (fun t _ => li + 70 - (intOf t).toNat)
              case atStart => exact ⟨0, by omega, rfl, nd, rfl⟩
              case round =>
                obtain ⟨q, hq, rfl, nd3, rfl⟩ := hrel
                by_cases hql : q < li + 70
                · have hdq : decide ((q : Int) < ((li + 70 : Nat) : Int)) = true := decide_eq_true (by omega)
                  have hqi : (q : Int) < (li : Int) + 70 := by omega
                  have hqn : decide ((q : Int) < (li : Int) + 70) = true := decide_eq_true hqi
                  have hqm : decide (q < li + 70) = true := decide_eq_true hql
                  obtain ⟨bu, ou, rfl, hcu⟩ := SU.out.cells (by rw [List.length_append, List.length_replicate, List.length_replicate]; omega)
                  have cU := hcu q (by rw [List.length_append, List.length_replicate, List.length_replicate]; omega)
                  by_cases hlo : q < li
                  · have hdl : decide ((q : Int) < (li : Int)) = true := decide_eq_true (by omega)
                    have hdl2 : decide (q < li) = true := decide_eq_true hlo
                    have hli2 : (q : Int) < (li : Int) := by omega
                    rw [two_lo hlo] at cU
                    obtain ⟨bv, ov, rfl, hcv⟩ := SV.out.cells (by rw [List.length_replicate]; omega)
                    have cV := hcv q (by rw [List.length_replicate]; omega)
                    rw [rep_nth6 hlo] at cV
                    clear hcu hcv
                    go_wp2_with fail
                    go_roundw
                    case rel => exact ⟨q + 1, by omega, by go_num, (by repeat (first | exact Dr.refl _ | apply Dr.drewN))⟩
                    case measure => simp [intOf]; omega
                  · have hdl : decide ((q : Int) < (li : Int)) = false := decide_eq_false (by omega)
                    have hdl2 : decide (q < li) = false := decide_eq_false hlo
                    have hli2 : ¬ (q : Int) < (li : Int) := by omega
                    rw [two_hi (by omega) hql] at cU
                    clear hcu
                    go_wp2_with fail
                    go_roundw
                    case rel => exact ⟨q + 1, by omega, by go_num, (by repeat (first | exact Dr.refl _ | apply Dr.drewN))⟩
                    case measure => simp [intOf]; omega
                · obtain rfl : q = li + 70 := by omega
                  have hdq : decide (((li + 70 : Nat) : Int) < ((li + 70 : Nat) : Int)) = false := by simp
                  go_wp2_with fail
                  go_roundw
                  case rel => exact ⟨i + 1, by omega, by go_num, (by repeat (first | exact Dr.refl _ | apply Dr.drewN))⟩
                  case measure => simp [intOf]; omega
            · have hd : decide ((i : Int) < 2) = false := decide_eq_false (by omega)
              obtain rfl : i = 2 := by omega
              rw [show ((2 : Nat) : Int) = 2 from rfl]
              clear hd
              have hd : decide ((2 : Int) < 2) = false := by decide
              go_wp2_with fail
              go_ret
              exact ⟨rfl, V, FV.out.1, FV.out.2, FF.out.drewN _, below_drewN BB.out _⟩
end Go.Proofs.Ytnlmkikaaifcmaa
