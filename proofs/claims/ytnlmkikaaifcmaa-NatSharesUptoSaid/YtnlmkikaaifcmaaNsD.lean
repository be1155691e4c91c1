/- signetlaw6.laid, asked by their contracts. -/
import Derived.Test.YtnlmkikaaifcmaaNsA
set_option linter.unusedVariables false
set_option linter.unusedSimpArgs false
namespace Go.Proofs.Ytnlmkikaaifcmaa
open Go.RowKit Go.Sg
theorem u32_in (z : Int) (h : 0 ≤ z ∧ z ≤ 4294967295) : IntKind.u32.wrap z = z := by rw [IntKind.wrap_u32']; omega
set_option maxHeartbeats 4000000 in
set_option maxRecDepth 20000 in
theorem laid_c (aw ar : Option Addr) (cw cr n : Nat) (Z x : List Int) (b : Int) (w : World) (hW : Sl .u32 w aw cw Z) (hr : Sl .u32 w ar cr x) (hn : n = x.length) (hz : n + 8 = Z.length) (hle : n ≤ 4096)
    (H1 : ∀ i, i < n → nth Z i = bits .xor .u32 (nth x i) b) (H2 : ∀ i, n ≤ i → i < n + 8 → nth Z i = 2779096320 + (i : Int)) :
    Calls Try.prog 8 #[.slice aw (n + 8) cw, .slice ar n cr, .int .u32 b] w (BoolPost true w) := by
  have HN := Lib.hid hn
  have HZ := Lib.hid hz
  have h1 := Lib.hid H1
  have h2 := Lib.hid H2
  clear hn hz H1 H2
  go_enter Try.func8, Try.ntmps8
  go_wp2_with fail
  go_loopw [7] (fun t wr => ∃ i : Nat, i ≤ n + 8 ∧ t = .int .i64 (i : Int) ∧ Dr w wr) (fun t _ => n + 8 - (intOf t).toNat)
  case atStart => exact ⟨0, by omega, rfl, .refl _⟩
  case round =>
    obtain ⟨i, hi, rfl, nd, rfl⟩ := hrel
    by_cases hlt : i < n + 8
    · obtain ⟨bz, oz, rfl, hcz⟩ := hW.cells (by rw [← HZ.out]; omega)
      have cz := hcz i (by rw [← HZ.out]; exact hlt)
      clear hcz
      have hd8 : decide ((i : Int) < ((n + 8 : Nat) : Int)) = true := decide_eq_true (by omega)
      have hi8 : (i : Int) < (n : Int) + 8 := by omega
      have hd8' : decide ((i : Int) < (n : Int) + 8) = true := decide_eq_true hi8
      have hd8'' : decide (i < n + 8) = true := decide_eq_true hlt
      by_cases hlo : i < n
      · obtain ⟨br, orr, rfl, hcr⟩ := hr.cells (by rw [← HN.out]; omega)
        have cr_ := hcr i (by rw [← HN.out]; exact hlo)
        clear hcr
        have hdl : decide ((i : Int) < (n : Int)) = true := decide_eq_true (by omega)
        have hdg : decide ((n : Int) ≤ (i : Int)) = false := decide_eq_false (by omega)
        have hil : (i : Int) < (n : Int) := by omega
        have hdn : decide (n ≤ i) = false := decide_eq_false (by omega)
        have hdm : decide (i < n) = true := decide_eq_true hlo
        obtain ⟨zi, hzi⟩ : ∃ z, z = nth Z i := ⟨_, rfl⟩
        obtain ⟨xi, hxi⟩ : ∃ z, z = nth x i := ⟨_, rfl⟩
        rw [← hzi] at cz
        rw [← hxi] at cr_
        have e := h1.out i hlo
        rw [← hzi, ← hxi] at e
        have ne : (zi != bits .xor .u32 xi b) = false := by rw [e]; simp
        clear e hzi hxi
        go_wp2_with fail
        go_quiet (fail)
        go_wp2_with fail
        go_roundw
        case rel => exact ⟨i + 1, by omega, by go_num, (by repeat (first | exact Dr.refl _ | apply Dr.drewN))⟩
        case measure => simp [intOf]; omega
      · have hdl : decide ((i : Int) < (n : Int)) = false := decide_eq_false (by omega)
        have hdg : decide ((n : Int) ≤ (i : Int)) = true := decide_eq_true (by omega)
        have hil : ¬ (i : Int) < (n : Int) := by omega
        have hig : (n : Int) ≤ (i : Int) := by omega
        have hdn : decide (n ≤ i) = true := decide_eq_true (by omega)
        have hdm : decide (i < n) = false := decide_eq_false hlo
        have e := h2.out i (by omega) hlt
        obtain ⟨zi, hzi⟩ : ∃ z, z = nth Z i := ⟨_, rfl⟩
        rw [← hzi] at cz e
        have w1 : IntKind.u32.wrap (i : Int) = (i : Int) := u32_in _ (by omega)
        have w2 : IntKind.u32.wrap (2779096320 + (i : Int)) = 2779096320 + (i : Int) := u32_in _ (by omega)
        have ne : (zi != 2779096320 + (i : Int)) = false := by rw [e]; simp
        clear e hzi
        go_wp2_with fail
        go_quiet (fail)
        go_wp2_with fail
        go_roundw
        case rel => exact ⟨i + 1, by omega, by go_num, (by repeat (first | exact Dr.refl _ | apply Dr.drewN))⟩
        case measure => simp [intOf]; omega
    · obtain rfl : i = n + 8 := by omega
      have hd8 : decide (((n + 8 : Nat) : Int) < ((n + 8 : Nat) : Int)) = false := by simp
      go_wp2_with fail
      go_ret
      exact ⟨rfl, nd, rfl⟩
end Go.Proofs.Ytnlmkikaaifcmaa
