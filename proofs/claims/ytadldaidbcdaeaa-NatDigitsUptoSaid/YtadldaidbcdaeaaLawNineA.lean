/- signetlaw9: lent, still, turned, by their contracts. -/
import Derived.Test.YtadldaidbcdaeaaRefC
set_option linter.unusedVariables false
set_option linter.unusedSimpArgs false
namespace Go.Proofs.Ytadldaidbcdaeaa
open Go.RowKit Go.Sg

/-- Forty marks. -/
def marks : List Int := List.replicate 40 165
theorem marks_len : marks.length = 40 := by simp [marks]
theorem marks_u8 : U8 marks := .of_mem (by omega) (by intro x hx; have := List.eq_of_mem_replicate hx; omega)
theorem nth_marks (i : Nat) (h : i < 40) : nth marks i = 165 := nth_replicate _ _ _ h

/-- The bytes with marked room behind them, in new memory. -/
def LentPost (bs : List Int) (w : World) (e : Ending) (w' : World) : Prop :=
  ∃ g cap, e = .returned (.slice (some ⟨g, 0, none⟩) bs.length cap) ∧ w.heap.size ≤ g ∧ Pre w' g .u8 5 cap (bs ++ marks) ∧ Below w.heap.size w w'

set_option maxHeartbeats 1000000 in
theorem lent_c (a : Option Addr) (cap : Nat) (bs : List Int) (w : World) (hc : Sl .u8 w a cap bs) (hlen : bs.length ≤ 140737488355288) :
    Calls Try.prog 17 #[.slice a bs.length cap] w (LentPost bs w) := by
  have hm := hc.max
  go_enter Try.func17, Try.ntmps17
  go_wp2_with (at_builtin; refine wpList_append_new _ rfl _ _ 22 rfl w.heap.size 5 .u8 1 Try.underlying22 info8 _ [] rfl (New.nil _ _ _ _) _ _ _ bs rfl rfl hc.cells (by simp; omega) (by simp; omega) (Nat.le_refl _) ?_)
  intro v1 w1 hv1 hg1 _
  have hb1 : Below w.heap.size w w1 := (Below.refl _ _).grown hg1 (Nat.le_refl _) fun g hg => by simp [Value.ownBlock] at hg
  clear hg1
  go_wp2_with fail
  go_loopw [3, 4] (fun v t wr => ∃ j : Nat, j ≤ 40 ∧ t = .int .i64 (j : Int) ∧ New w.heap.size .u8 5 wr v (bs ++ List.replicate j 165) ∧ Below w.heap.size w wr)
    (fun _ t _ => 40 - (intOf t).toNat)
  case atStart => exact ⟨0, by omega, rfl, by simpa using hv1, hb1⟩
  case round =>
    obtain ⟨j, hj, rfl, hv, hb⟩ := hrel
    have hbs := hb.size
    by_cases hlt : j < 40
    · go_wp2_with (at_builtin; refine wpList_append_new _ rfl _ _ 22 rfl w.heap.size 5 .u8 1 Try.underlying22 info8 _ _ rfl (hv.alloc _) _ _ 1 [165] rfl rfl (cells_one _ _ _ _ _ rfl) (by simp; omega) (by simp; omega) (by simp; omega) ?_)
      intro v' w' hv' hg _
      have hb' : Below w.heap.size w w' := (hb.alloc (by omega) _).grown hg (by simp; omega) fun g hg => (hv.lt g hg).1
      replace hv' : New w.heap.size .u8 5 w' v' (bs ++ List.replicate (j + 1) 165) := by simpa [List.replicate_succ'] using hv'
      clear hg hv hb hbs
      go_wp2_with fail
      go_roundw
      case rel => exact ⟨j + 1, by omega, by go_num, hv', hb'⟩
      case measure => simp [intOf]; omega
    · obtain rfl : j = 40 := by omega
      obtain ⟨g, cp, rfl, hg, hp⟩ := hv.pre (by simp)
      have hle := hp.le
      have hmx := hp.max
      have hl2 : bs.length ≤ cp := by simp at hle; omega
      clear hle
      go_wp2_with fail
      go_ret
      exact ⟨g, cp, rfl, hg, hp, hb⟩

set_option maxHeartbeats 2000000 in
theorem still_c (g cap : Nat) (a : Option Addr) (cp : Nat) (bs : List Int) (w : World) (hp : Pre w g .u8 5 cap (bs ++ marks)) (hc : Sl .u8 w a cp bs) :
    Calls Try.prog 20 #[.slice (some ⟨g, 0, none⟩) bs.length cap, .slice a bs.length cp] w (BoolPost true w) := by
  have hle := hp.le
  have hmx := hp.max
  rw [List.length_append, marks_len] at hle
  go_enter Try.func20, Try.ntmps20
  go_wp2_with fail
  go_loopw [6] (fun t wr => ∃ i : Nat, i ≤ bs.length + 40 ∧ t = .int .i64 (i : Int) ∧ Dr w wr)
    (fun t _ => bs.length + 40 - (intOf t).toNat)
  case atStart => exact ⟨0, by omega, rfl, .refl _⟩
  case round =>
    obtain ⟨i, hi, rfl, nd, rfl⟩ := hrel
    by_cases hlt : i < bs.length + 40
    · have hcell := hp.cell i (by rw [List.length_append, marks_len]; omega)
      have hx : (i : Int) < (bs.length : Int) + 40 := by omega
      by_cases hin : i < bs.length
      · obtain ⟨b, off, rfl, hcc⟩ := hc.cells (by omega)
        have hcell2 := hcc i hin
        rw [nth_append_left _ _ _ hin] at hcell
        have g1 : decide ((i : Int) < (bs.length : Int)) = true := decide_eq_true (by omega)
        have g2 : decide ((bs.length : Int) ≤ (i : Int)) = false := decide_eq_false (by omega)
        have g3 : decide (i < bs.length) = true := decide_eq_true (by omega)
        have g4 : decide (bs.length ≤ i) = false := decide_eq_false (by omega)
        clear hcc
        go_wp2_with fail
        go_quiet (fail)
        go_wp2_with fail
        go_roundw
        case rel => exact ⟨i + 1, by omega, by go_num, (by repeat (first | exact Dr.refl _ | apply Dr.drewN))⟩
        case measure => simp [intOf]; omega
      · have hcell2 : nth (bs ++ marks) i = 165 := by
          obtain ⟨j, rfl⟩ : ∃ j, i = bs.length + j := ⟨i - bs.length, by omega⟩
          rw [nth_append_right, nth_marks _ (by omega)]
        rw [hcell2] at hcell
        have g1 : decide ((i : Int) < (bs.length : Int)) = false := decide_eq_false (by omega)
        have g2 : decide ((bs.length : Int) ≤ (i : Int)) = true := decide_eq_true (by omega)
        have g3 : decide (i < bs.length) = false := decide_eq_false (by omega)
        have g4 : decide (bs.length ≤ i) = true := decide_eq_true (by omega)
        clear hcell2
        go_wp2_with fail
        go_quiet (fail)
        go_wp2_with fail
        go_roundw
        case rel => exact ⟨i + 1, by omega, by go_num, (by repeat (first | exact Dr.refl _ | apply Dr.drewN))⟩
        case measure => simp [intOf]; omega
    · obtain rfl : i = bs.length + 40 := by omega
      have hx : ¬ (((bs.length + 40 : Nat) : Int) < (bs.length : Int) + 40) := by omega
      go_wp2_with fail
      go_ret
      exact ⟨rfl, nd, rfl⟩

theorem bits_u8_rng (op : BinOp) (x y : Int) : 0 ≤ bits op .u8 x y ∧ bits op .u8 x y ≤ 255 := by
  unfold bits
  simp only [IntKind.wrap_u8']
  omega
theorem bits_u32_rng (op : BinOp) (x y : Int) : 0 ≤ bits op .u32 x y ∧ bits op .u32 x y ≤ 4294967295 := by
  unfold bits
  simp only [IntKind.wrap_u32']
  omega

def TurnedPost (g cap n : Nat) (zs : List Int) (w : World) (e : Ending) (w' : World) : Prop :=
  e = .returned (.tuple #[]) ∧ ∃ ys, ys.length = n ∧ U8 ys ∧ Pre w' g .u8 5 cap (ys ++ zs) ∧ w.grownBy w' (some g)

set_option maxHeartbeats 1000000 in
theorem turned_c (g cap : Nat) (xs zs : List Int) (w : World) (hp : Pre w g .u8 5 cap (xs ++ zs)) (ux : U8 xs) :
    Calls Try.prog 21 #[.slice (some ⟨g, 0, none⟩) xs.length cap] w (TurnedPost g cap xs.length zs w) := by
  have hle := hp.le
  have hmx := hp.max
  rw [List.length_append] at hle
  by_cases h0 : xs.length = 0
  · have hz := Lib.hid h0
    rw [h0]
    go_enter Try.func21, Try.ntmps21
    go_wp2_with fail
    go_end0
    exact ⟨rfl, xs, hz.out, ux, hp, rfl, rfl, rfl, Nat.le_refl _, fun _ _ _ => rfl⟩
  · have hn : 0 < (xs.length : Int) := by omega
    have hl1 : xs.length - 1 < xs.length := by omega
    have hl2 : xs.length / 2 < xs.length := by omega
    have c1 := hp.cell (xs.length - 1) (by simp; omega)
    have f1 := hp.free (xs.length - 1)
    rw [nth_append_left _ _ _ hl1] at c1
    have hp2 := hp.set (xs.length - 1) (bits .xor .u8 (nth xs (xs.length - 1)) 2)
    rw [List.set_append_left _ _ hl1] at hp2
    have u2 := ux.set (xs.length - 1) (bits_u8_rng .xor (nth xs (xs.length - 1)) 2).1 (bits_u8_rng .xor (nth xs (xs.length - 1)) 2).2
    obtain ⟨ys, hys⟩ : ∃ ys, ys = xs.set (xs.length - 1) (bits .xor .u8 (nth xs (xs.length - 1)) 2) := ⟨_, rfl⟩
    rw [← hys] at hp2 u2
    have hyl : ys.length = xs.length := by rw [hys]; simp
    have c2 := hp2.cell (xs.length / 2) (by simp; omega)
    have f2 := hp2.free (xs.length / 2)
    rw [nth_append_left _ _ _ (by omega)] at c2
    have hp3 := hp2.set (xs.length / 2) (bits .xor .u8 (nth ys (xs.length / 2)) 16)
    rw [List.set_append_left _ _ (by omega)] at hp3
    have u3 := u2.set (xs.length / 2) (bits_u8_rng .xor (nth ys (xs.length / 2)) 16).1 (bits_u8_rng .xor (nth ys (xs.length / 2)) 16).2
    have HY := Lib.hid hyl
    clear hys hyl
    go_enter Try.func21, Try.ntmps21
    go_wp2_with fail
    go_end0
    exact ⟨rfl, _, by rw [List.length_set]; exact HY.out, u3, hp3, grownBy_trans (grownBy_set _ _ _) (grownBy_set _ _ _)⟩
end Go.Proofs.Ytadldaidbcdaeaa
