/- signetlaw9.same, still, by their contracts. (Printed by gen_rsaencodes.py.) -/
import Derived.Test.YtponfoijmmegmaaDoorLentL
set_option linter.unusedVariables false
set_option linter.unusedSimpArgs false
namespace Go.Proofs.YtponfoijmmegmaaDoor
open Go.RowKit Go.Sg

set_option maxHeartbeats 2000000 in
theorem same9_c (a a' : Option Addr) (cap cap' : Nat) (xs ys : List Int) (w : World) (hx : Sl .u8 w a cap xs) (hy : Sl .u8 w a' cap' ys) (ux : U8 xs) (uy : U8 ys) :
    Calls Tryd.prog 26 #[.slice a xs.length cap, .slice a' ys.length cap'] w (TellPost (decide (xs = ys)) w) := by
  have mx := Nat.le_trans hx.le hx.max
  have my := Nat.le_trans hy.le hy.max
  by_cases hl : xs.length = ys.length
  · obtain ⟨n, hn⟩ : ∃ n, n = xs.length := ⟨_, rfl⟩
    have HN := Lib.hid hn
    have HM : Hid (n = ys.length) := Lib.hid (by omega)
    have hne : ((n : Int) != (n : Int)) = false := by simp
    rw [← hl, ← hn]
    rw [← hn] at mx
    clear hn hl my
    go_enter Tryd.func26, Tryd.ntmps26
    go_wp2_with fail
    clear hne
    go_loopw [5] (fun t wr => ∃ i : Nat, i ≤ n ∧ t = .int .i64 (i : Int) ∧ xs.take i = ys.take i ∧ Dr w wr) (fun t _ => n - (intOf t).toNat)
    case atStart => exact ⟨0, by omega, rfl, by simp, .refl _⟩
    case round =>
      obtain ⟨i, hi, rfl, he, nd, rfl⟩ := hrel
      have HE := Lib.hid he
      clear he
      by_cases hlt : i < n
      · obtain ⟨b, off, rfl, hc⟩ := hx.cells (by have := HN.out; omega)
        obtain ⟨b', off', rfl, hc'⟩ := hy.cells (by have := HM.out; omega)
        have c0 := hc i (by have := HN.out; omega)
        have c1 := hc' i (by have := HM.out; omega)
        obtain ⟨p, hp⟩ : ∃ p, p = nth xs i := ⟨_, rfl⟩
        obtain ⟨q, hq⟩ : ∃ q, q = nth ys i := ⟨_, rfl⟩
        rw [← hp] at c0
        rw [← hq] at c1
        have hd : decide ((i : Int) < (n : Int)) = true := decide_eq_true (by omega)
        by_cases hpq : p = q
        · have he : Hid (xs.take (i + 1) = ys.take (i + 1)) := Lib.hid (by
            rw [take_succ_nth _ _ (by have := HN.out; omega), take_succ_nth _ _ (by have := HM.out; omega), HE.out, ← hp, ← hq, hpq])
          have g1 : (p != q) = false := by simp [hpq]
          clear hc hc' hp hq hpq hd
          go_wp2_with fail
          go_quiet (fail)
          go_wp2_with fail
          go_roundw
          case rel => exact ⟨i + 1, by omega, by go_num, he.out, (by repeat (first | exact Dr.refl _ | apply Dr.drewN))⟩
          case measure => simp [intOf]; omega
        · have e : Hid (decide (xs = ys) = false) := Lib.hid (decide_eq_false fun e => hpq (by rw [hp, hq, e]))
          have g1 : (p != q) = true := by simp [hpq]
          clear hc hc' hp hq hpq hd
          go_wp2_with fail
          go_quiet (fail)
          go_wp2_with fail
          go_ret
          exact ⟨by rw [e.out]; first | done | rfl, (by repeat (first | exact Below.refl _ _ | apply below_drewN))⟩
      · obtain rfl : i = n := by omega
        have e : Hid (decide (xs = ys) = true) := Lib.hid (decide_eq_true (by
          have := HE.out
          rwa [List.take_of_length_le (by have := HN.out; omega), List.take_of_length_le (by have := HM.out; omega)] at this))
        go_wp2_with fail
        go_ret
        exact ⟨by rw [e.out]; first | done | rfl, (by repeat (first | exact Below.refl _ _ | apply below_drewN))⟩
  · have hne : ((xs.length : Int) != (ys.length : Int)) = true := by simp; omega
    have e : Hid (decide (xs = ys) = false) := Lib.hid (decide_eq_false fun e => hl (by rw [e]))
    clear hl
    go_enter Tryd.func26, Tryd.ntmps26
    go_wp2_with fail
    go_ret
    exact ⟨by rw [e.out]; first | done | rfl, .refl _ _⟩
theorem still9_c (g cap : Nat) (a : Option Addr) (cp : Nat) (bs : List Int) (w : World) (hp : Pre w g .u8 5 cap (bs ++ marks)) (hc : Sl .u8 w a cp bs) :
    Calls Tryd.prog 27 #[.slice (some ⟨g, 0, none⟩) bs.length cap, .slice a bs.length cp] w (TellPost true w) :=
  (still_c g cap a cp bs w hp hc).mono fun e w' p => ⟨p.1, by obtain ⟨n, rfl⟩ := p.2; exact below_drewN (Below.refl _ _) n⟩
end Go.Proofs.YtponfoijmmegmaaDoor
