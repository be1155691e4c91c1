/- signetlaw4: same, roomy, spared, pick, by their contracts. (Printed by gen_playa.py.) -/
import Derived.Test.YtnlmkikaaifcmaaDoorRefT
import Derived.Test.YtnlmkikaaifcmaaDoorRowsX
import Derived.Outline
set_option linter.unusedVariables false
set_option linter.unusedSimpArgs false
namespace Go.Sg
open Go.RowKit
/-- The same memory, further on the tape. -/
def Dr (w w' : World) : Prop := ∃ n, w' = w.drewN n
theorem Dr.refl (w : World) : Dr w w := ⟨0, rfl⟩
theorem Dr.drewN {w w' : World} (h : Dr w w') (n : Nat) : Dr w (w'.drewN n) := by obtain ⟨m, rfl⟩ := h; exact ⟨m + n, by simp⟩
/-- The marks behind a roomy copy. -/
def m9 : List Int := List.replicate 9 165
theorem m9_len : m9.length = 9 := rfl
theorem blk_sl {w : World} {E : TypeId} {g : Nat} {xs : List Int} (h : Blk w g .u8 E (xs ++ m9)) (hl : xs.length ≤ 140737488350000) : Sl .u8 w (some ⟨g, 0, none⟩) (xs.length + 9) xs := by
  have := h.sl xs.length (xs.length + 9) (by omega) (by omega)
  rwa [List.take_left] at this
/-- A slice is stored into a place. -/
theorem NewV.put {B : Nat} {E : TypeId} {w : World} {g n c : Nat} {vs : List Value} (h : NewV B E w (.slice (some ⟨g, 0, none⟩) n c) vs) (i : Nat) (u : Value) : w.frozen? ⟨g, i, none⟩ = false ∧ NewV B E (w.setCell ⟨g, i, none⟩ u) (.slice (some ⟨g, 0, none⟩) n c) (vs.set i u) := by
  rcases h with ⟨h, _⟩ | ⟨g', cap, cs, hv, hg, hh, h1, h2, h3, h4⟩
  · simp at h
  · simp only [Value.slice.injEq, Option.some.injEq, Addr.mk.injEq, and_true] at hv
    obtain ⟨rfl, rfl, rfl⟩ := hv
    refine ⟨frozen_of_row w g i cs E hh, .inr ⟨g, c, _, by simp, hg, heap_setCell_same w g i cs E u hh, by simpa using h1, by simpa using h2, h3, ?_⟩⟩
    rw [Array.toList_setIfInBounds, List.length_set, List.take_set, h4]
theorem NewV.one {B : Nat} {E : TypeId} {w : World} (u : Value) (hB : B ≤ w.heap.size) : NewV B E (w.alloc (.cells #[u] E)) (.slice (some ⟨w.heap.size, 0, none⟩) 1 1) [u] :=
  .inr ⟨w.heap.size, 1, _, rfl, hB, Go.heap_alloc_new w _, by simp, by simp, by omega, rfl⟩
end Go.Sg
namespace Go.Proofs.YtnlmkikaaifcmaaDoor
open Go.RowKit Go.Sg
/-- A bool, and nothing that was there has turned. -/
def TellPost (b : Bool) (w : World) (e : Ending) (w' : World) : Prop := e = .returned (.bool b) ∧ Below w.heap.size w w'
set_option maxHeartbeats 2000000 in
theorem same4_c (a a' : Option Addr) (cap cap' : Nat) (xs ys : List Int) (w : World) (hx : Sl .u8 w a cap xs) (hy : Sl .u8 w a' cap' ys) (ux : U8 xs) (uy : U8 ys) :
    Calls Tryd.prog 11 #[.slice a xs.length cap, .slice a' ys.length cap'] w (TellPost (decide (xs = ys)) w) := by
  have mx := Nat.le_trans hx.le hx.max
  have my := Nat.le_trans hy.le hy.max
  by_cases hl : xs.length = ys.length
  · obtain ⟨n, hn⟩ : ∃ n, n = xs.length := ⟨_, rfl⟩
    have HN := Lib.hid hn
    have HM : Hid (n = ys.length) := Lib.hid (by omega)
    have hne : ((n : Int) != (n : Int)) = false := by simp
    rw [← hl, ← hn]
    rw [← hn] at mx
    clear hn hl my
    go_enter Tryd.func11, Tryd.ntmps11
    go_wp2_with fail
    clear hne
    go_loopw [5] (fun t wr => ∃ i : Nat, i ≤ n ∧ t = .int .i64 (i : Int) ∧ xs.take i = ys.take i ∧ Dr w wr) (fun t _ => n - (intOf t).toNat)
    case atStart => exact ⟨0, by omega, rfl, by simp, .refl _⟩
    case round =>
      obtain ⟨i, hi, rfl, he, nd, rfl⟩ := hrel
      have HE := Lib.hid he
      clear he
      by_cases hlt : i < n
      · obtain ⟨b, off, rfl, hc⟩ := hx.cells (by have := HN.out; omega)
        obtain ⟨b', off', rfl, hc'⟩ := hy.cells (by have := HM.out; omega)
        have c0 := hc i (by have := HN.out; omega)
        have c1 := hc' i (by have := HM.out; omega)
        obtain ⟨p, hp⟩ : ∃ p, p = nth xs i := ⟨_, rfl⟩
        obtain ⟨q, hq⟩ : ∃ q, q = nth ys i := ⟨_, rfl⟩
        rw [← hp] at c0
        rw [← hq] at c1
        have hd : decide ((i : Int) < (n : Int)) = true := decide_eq_true (by omega)
        by_cases hpq : p = q
        · have he : Hid (xs.take (i + 1) = ys.take (i + 1)) := Lib.hid (by
            rw [take_succ_nth _ _ (by have := HN.out; omega), take_succ_nth _ _ (by have := HM.out; omega), HE.out, ← hp, ← hq, hpq])
          have g1 : (p != q) = false := by simp [hpq]
          clear hc hc' hp hq hpq hd
          go_wp2_with fail
          go_quiet (fail)
          go_wp2_with fail
          go_roundw
          case rel => exact ⟨i + 1, by omega, by go_num, he.out, (by repeat (first | exact Dr.refl _ | apply Dr.drewN))⟩
          case measure => simp [intOf]; omega
        · have e : Hid (decide (xs = ys) = false) := Lib.hid (decide_eq_false fun e => hpq (by rw [hp, hq, e]))
          have g1 : (p != q) = true := by simp [hpq]
          clear hc hc' hp hq hpq hd
          go_wp2_with fail
          go_quiet (fail)
          go_wp2_with fail
          go_ret
          exact ⟨by rw [e.out]; first | done | rfl, (by repeat (first | exact Below.refl _ _ | apply below_drewN))⟩
      · obtain rfl : i = n := by omega
        have e : Hid (decide (xs = ys) = true) := Lib.hid (decide_eq_true (by
          have := HE.out
          rwa [List.take_of_length_le (by have := HN.out; omega), List.take_of_length_le (by have := HM.out; omega)] at this))
        go_wp2_with fail
        go_ret
        exact ⟨by rw [e.out]; first | done | rfl, (by repeat (first | exact Below.refl _ _ | apply below_drewN))⟩
  · have hne : ((xs.length : Int) != (ys.length : Int)) = true := by simp; omega
    have e : Hid (decide (xs = ys) = false) := Lib.hid (decide_eq_false fun e => hl (by rw [e]))
    clear hl
    go_enter Tryd.func11, Tryd.ntmps11
    go_wp2_with fail
    go_ret
    exact ⟨by rw [e.out]; first | done | rfl, .refl _ _⟩
def RoomPost (xs : List Int) (w : World) (e : Ending) (w' : World) : Prop := ∃ g, e = .returned (.slice (some ⟨g, 0, none⟩) xs.length (xs.length + 9)) ∧ w.heap.size ≤ g ∧ Blk w' g .u8 5 (xs ++ m9) ∧ Below w.heap.size w w'
set_option maxHeartbeats 4000000 in
set_option maxRecDepth 20000 in
theorem roomy_c (a : Option Addr) (cap : Nat) (xs : List Int) (w : World) (hx : Sl .u8 w a cap xs) (hl : xs.length ≤ 140737488350000) :
    Calls Tryd.prog 7 #[.slice a xs.length cap] w (RoomPost xs w) := by
  obtain ⟨n, hn⟩ : ∃ n, n = xs.length := ⟨_, rfl⟩
  have HN := Lib.hid hn
  rw [← hn] at hl ⊢
  clear hn
  go_enter Tryd.func7, Tryd.ntmps7
  go_wp2_with (at_make; refine wpList_make_blk _ rfl _ _ 29 rfl 5 .u8 1 Tryd.underlying29 info8s (n + 9) _ _ rfl rfl (by omega) (by omega) (by omega) (by omega) ?_)
  intro w1 hk1 hs1 hb1
  have hx1 := hx.below hb1
  obtain ⟨G, hG⟩ : ∃ G, G = w.heap.size := ⟨_, rfl⟩
  rw [← hG] at hk1 ⊢
  have hge : w.heap.size ≤ G := by omega
  clear hG hx hs1
  go_wp2_with (with_reducible refine wpList_copy_blk rfl _ _ 29 29 rfl 5 Tryd.underlying29 size8 _ G 0 _ _ _ _ _ rfl rfl .u8 _ xs hk1 hx1.cells HN.out.symm (fun _ _ => rfl) (by rw [List.length_replicate]; omega) ?_)
  intro w2 hk2 hg2 hs2
  have hb2 : Below w.heap.size w w2 := hb1.grown hg2 (by have := hb1.size; omega) (by simp; omega)
  have hk3 : Blk w2 G .u8 5 (xs ++ (List.replicate 0 165 ++ List.replicate (9 - 0) 0)) := by
    have e : xs.take (n + 9) ++ List.replicate (n + 9 - n) (0 : Int) = xs ++ (List.replicate 0 165 ++ List.replicate (9 - 0) 0) := by
      rw [List.take_of_length_le (by rw [← HN.out]; omega), show n + 9 - n = 9 by omega]
      rfl
    have h2 := hk2
    rw [← e]
    simpa [Nat.min_eq_left (show n ≤ n + 9 by omega)] using h2
  clear hk1 hk2 hg2 hb1 hs2 hx1
  go_wp2_with fail
  go_loopw [4] (fun t wr => ∃ j : Nat, j ≤ 9 ∧ t = .int .i64 ((n + j : Nat) : Int) ∧ Blk wr G .u8 5 (xs ++ (List.replicate j 165 ++ List.replicate (9 - j) 0)) ∧ Below w.heap.size w wr)
    (fun t _ => n + 9 - (intOf t).toNat)
  case atStart => exact ⟨0, by omega, by rw [Nat.add_zero], hk3, hb2⟩
  case round =>
    clear hk3 hb2
    obtain ⟨j, hj, rfl, hk, hb⟩ := hrel
    obtain ⟨i, hi⟩ : ∃ i, i = n + j := ⟨_, rfl⟩
    rw [← hi]
    have HI := Lib.hid hi
    by_cases hlt : j < 9
    · have ll : (xs ++ (List.replicate j (165 : Int) ++ List.replicate (9 - j) 0)).length = n + 9 := by simp [HN.out]; omega
      have c0 := hk.cell i (by rw [ll]; omega)
      have f0 := hk.free i
      have hs := hk.set i 165
      have fin : Hid ((xs ++ (List.replicate j 165 ++ List.replicate (9 - j) 0)).set i 165 = xs ++ (List.replicate (j + 1) 165 ++ List.replicate (9 - (j + 1)) 0)) := Lib.hid (by
        rw [List.set_append_right _ _ (by rw [← HN.out]; omega), ← HN.out, List.set_append_right _ _ (by rw [List.length_replicate]; omega), List.length_replicate, show i - n - j = 0 by omega,
          show 9 - j = (9 - (j + 1)) + 1 by omega, List.replicate_succ (n := 9 - (j + 1)), List.set_cons_zero, List.replicate_succ' (n := j), List.append_assoc]
        rfl)
      rw [fin.out] at hs
      have hb' := hb.setCell (p := ⟨G, i, none⟩) hge (.int .u8 165)
      have hin : (i : Int) < (n : Int) + 9 := by omega
      have hin2 : i < n + 9 := by omega
      have hd1 : decide ((i : Int) < (n : Int) + 9) = true := decide_eq_true hin
      clear hk hb ll hi
      go_wp2_with fail
      go_roundw
      case rel => exact ⟨j + 1, by omega, by have := HI.out; go_num, hs, hb'⟩
      case measure => have := HI.out; simp [intOf]; omega
    · obtain rfl : j = 9 := by omega
      have hkf : Blk wr G .u8 5 (xs ++ m9) := by simpa [m9] using hk
      have hin : ¬ (i : Int) < (n : Int) + 9 := by omega
      have hin2 : ¬ i < n + 9 := by omega
      have hd1 : decide ((i : Int) < (n : Int) + 9) = false := decide_eq_false hin
      have hcut := fun W => cut_h0 (P := Tryd.prog) W 29 5 Tryd.underlying29 size8 (some ⟨G, 0, none⟩) (n + 9) (n + 9) n (by omega)
      clear hk hi
      go_wp2_with fail
      go_ret
      exact ⟨G, by rw [← HN.out]; first | done | rfl, hge, hkf, hb⟩
set_option maxHeartbeats 4000000 in
set_option maxRecDepth 20000 in
theorem spared_c (g : Nat) (a : Option Addr) (cap' : Nat) (xs : List Int) (w : World) (hk : Blk w g .u8 5 (xs ++ m9)) (hx : Sl .u8 w a cap' xs) (ux : U8 xs) (hl : xs.length ≤ 140737488350000) :
    Calls Tryd.prog 9 #[.slice (some ⟨g, 0, none⟩) xs.length (xs.length + 9), .slice a xs.length cap'] w (TellPost true w) := by
  have cm := same4_c _ _ _ _ _ _ w (blk_sl hk hl) hx ux ux
  rw [show decide (xs = xs) = true from decide_eq_true rfl] at cm
  have cells : ∀ j, j < 9 → w.cell? ⟨g, xs.length + j, none⟩ = some (.int .u8 165) := fun j hj => by
    rw [hk.cell (xs.length + j) (by rw [List.length_append, m9_len]; omega), nth_append_right]
    unfold m9
    rw [nth_replicate _ _ _ hj]
  have hcut := fun W => cut_h0 (P := Tryd.prog) W 29 5 Tryd.underlying29 size8 (some ⟨g, 0, none⟩) xs.length (xs.length + 9) (xs.length + 9) (by omega)
  obtain ⟨n, hn⟩ : ∃ n, n = xs.length := ⟨_, rfl⟩
  rw [← hn] at cm hl hcut ⊢
  have e9 : ((n + 9 : Nat) : Int) = (n : Int) + 9 := by omega
  rw [e9] at hcut
  have CELLS := Lib.hid cells
  have HN := Lib.hid hn
  clear cells hn e9
  go_enter Tryd.func9, Tryd.ntmps9
  go_wp2_with fail
  go_loopw [6] (fun t wr => ∃ j : Nat, j ≤ 9 ∧ t = .int .i64 ((n + j : Nat) : Int) ∧ wr = w) (fun t _ => n + 9 - (intOf t).toNat)
  case atStart => exact ⟨0, by omega, by rw [Nat.add_zero], rfl⟩
  case round =>
    obtain ⟨j, hj, rfl, hww⟩ := hrel
    subst hww
    obtain ⟨i, hi⟩ : ∃ i, i = n + j := ⟨_, rfl⟩
    rw [← hi]
    have HI := Lib.hid hi
    by_cases hlt : j < 9
    · have c0 := CELLS.out j hlt
      rw [← HN.out, ← hi] at c0
      have hin : (i : Int) < (n : Int) + 9 := by omega
      have hin2 : i < n + 9 := by omega
      have hd1 : decide ((i : Int) < (n : Int) + 9) = true := decide_eq_true hin
      clear hi cm hcut
      go_wp2_with fail
      go_roundw
      case rel => exact ⟨j + 1, by omega, by have := HI.out; go_num, by trivial⟩
      case measure => have := HI.out; simp [intOf]; omega
    · obtain rfl : j = 9 := by omega
      have hin : ¬ (i : Int) < (n : Int) + 9 := by omega
      have hin2 : ¬ i < n + 9 := by omega
      have hd1 : decide ((i : Int) < (n : Int) + 9) = false := decide_eq_false hin
      clear hi
      go_wp2_with fail
      refine cm.mono ?_; rintro e w1 ⟨rfl, hb⟩
      go_wp2_with fail
      go_ret
      exact ⟨rfl, hb⟩
def pickI (x n : Int) : Int := if x.tmod n < 0 then x.tmod n + n else x.tmod n
theorem tmod_rng' (n z : Int) (hz : 0 < z) : -z < n.tmod z ∧ n.tmod z < z := by
  have h1 := Int.natAbs_tmod n z
  have h2 : (n.tmod z).natAbs < z.natAbs := by rw [h1]; exact Nat.mod_lt _ (by omega)
  omega
theorem pickI_rng (x n : Int) (h : 0 < n) : 0 ≤ pickI x n ∧ pickI x n < n := by
  have := tmod_rng' x n h
  unfold pickI
  split <;> omega
theorem pick_c (x n : Int) (w : World) (hx : -9223372036854775808 ≤ x ∧ x ≤ 9223372036854775807) (h : 0 < n) (hn : n ≤ 9223372036854775807) : Calls Tryd.prog 6 #[.int .i64 x, .int .i64 n] w fun e w' => e = .returned (.int .i64 (pickI x n)) ∧ w = w' := by
  have hr := tmod_rng' x n h
  have n0 : (n == 0) = false := beq_false_of_ne (by omega)
  have n1 : (n == -1) = false := beq_false_of_ne (by omega)
  obtain ⟨R, hR⟩ : ∃ R, R = x.tmod n := ⟨_, rfl⟩
  have hrem : x.tmod n = R := hR.symm
  have hne : n ≠ 0 := by omega
  rw [← hR] at hr
  by_cases q : R < 0
  · have e : Hid (pickI x n = R + n) := Lib.hid (by unfold pickI; rw [← hR, if_pos q])
    have d : decide (R < 0) = true := decide_eq_true q
    clear hR
    go_enter Tryd.func6, Tryd.ntmps6
    go_wp2_with fail
    go_ret
    exact ⟨by rw [e.out]; first | done | rfl, rfl⟩
  · have e : Hid (pickI x n = R) := Lib.hid (by unfold pickI; rw [← hR, if_neg q])
    have d : decide (R < 0) = false := decide_eq_false q
    clear hR
    go_enter Tryd.func6, Tryd.ntmps6
    go_wp2_with fail
    go_ret
    exact ⟨by rw [e.out]; first | done | rfl, rfl⟩
end Go.Proofs.YtnlmkikaaifcmaaDoor
