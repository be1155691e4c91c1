import Derived.Test.YtlolkighnnedfaaDoorZ34
/- signetlaw13: same, roomy, spared, by their contracts. (Printed by gen_edlc.py.) -/
set_option linter.unusedVariables false
set_option linter.unusedSimpArgs false
namespace Go.Sg
open Go.RowKit
/-- The marks behind a roomy copy. -/
def mb9 : List Int := List.replicate 9 165
theorem mb9_len : mb9.length = 9 := rfl
theorem room_sl {w : World} {g : Nat} {E : TypeId} {xs : List Int} (h : Blk w g .u8 E (xs ++ mb9)) (hl : xs.length ≤ 140737488350000) : Sl .u8 w (some ⟨g, 0, none⟩) (xs.length + 9) xs := by
  have := h.sl xs.length (xs.length + 9) (by omega) (by omega)
  rwa [List.take_left] at this
end Go.Sg
namespace Go.Proofs.YtlolkighnnedfaaDoor
open Go.RowKit Go.Sg
theorem size8L : (Tryd.prog.info? 5).map (·.size) = some 1 := by kernel_rfl
set_option maxHeartbeats 1000000 in
theorem same13_c (a a' : Option Addr) (cap cap' : Nat) (xs ys : List Int) (w : World) (hx : Sl .u8 w a cap xs) (hy : Sl .u8 w a' cap' ys) :
    Calls Tryd.prog 30 #[.slice a xs.length cap, .slice a' ys.length cap'] w (BoolPost (decide (xs = ys)) w) := by
  have hxm := Nat.le_trans hx.le hx.max
  have hym := Nat.le_trans hy.le hy.max
  by_cases hl : xs.length = ys.length
  · obtain ⟨n, hn⟩ : ∃ n, n = ys.length := ⟨_, rfl⟩
    have HN := Lib.hid hn
    have HX := Lib.hid (show xs.length = n by omega)
    rw [hl]
    rw [← hn] at hym ⊢
    clear hl hn hxm
    have hne : ((n : Int) != n) = false := by simp
    go_enter Tryd.func30, Tryd.ntmps30
    go_wp2_with fail
    go_loopw [5] (fun t wr => ∃ i : Nat, i ≤ n ∧ t = .int .i64 (i : Int) ∧ (∀ j, j < i → nth xs j = nth ys j) ∧ Dr w wr)
      (fun t _ => n - (intOf t).toNat)
    case atStart => exact ⟨0, by omega, rfl, fun j hj => by omega, .refl _⟩
    case round =>
      obtain ⟨i, hi, rfl, hall, nd, rfl⟩ := hrel
      have HA := Lib.hid hall
      clear hall
      by_cases hlt : i < n
      · obtain ⟨b, off, rfl, hcc⟩ := hx.cells (by have := HX.out; omega)
        obtain ⟨b', off', rfl, hcc'⟩ := hy.cells (by have := HN.out; omega)
        have c1 := hcc i (by have := HX.out; omega)
        have c2 := hcc' i (by have := HN.out; omega)
        clear hcc hcc'
        by_cases he : nth xs i = nth ys i
        · have HE := Lib.hid he
          have g1 : (nth xs i != nth ys i) = false := by rw [he]; simp
          clear he
          go_wp2_with fail
          go_quiet (fail)
          go_wp2_with fail
          go_roundw
          case rel => exact ⟨i + 1, by omega, by go_num, fun j hj => by
            by_cases h : j = i
            · rw [h]; exact HE.out
            · exact HA.out j (by omega), (by repeat (first | exact Dr.refl _ | apply Dr.drewN))⟩
          case measure => simp [intOf]; omega
        · have HE := Lib.hid (show decide (xs = ys) = false from decide_eq_false fun h => he (by rw [h]))
          have g1 : (nth xs i != nth ys i) = true := by simpa using he
          clear he
          go_wp2_with fail
          go_quiet (fail)
          go_wp2_with fail
          go_ret
          exact ⟨by rw [HE.out]; rfl, (by repeat (first | exact Dr.refl _ | apply Dr.drewN))⟩
      · have HE := Lib.hid (show decide (xs = ys) = true from decide_eq_true (ext_nth _ _ (by rw [HX.out, HN.out]) fun j hj => HA.out j (by have := HX.out; omega)))
        go_wp2_with fail
        go_ret
        exact ⟨by rw [HE.out]; rfl, nd, rfl⟩
  · have HE := Lib.hid (show decide (xs = ys) = false from decide_eq_false fun h => hl (by rw [h]))
    have hne : ((xs.length : Int) != ys.length) = true := by simp; omega
    clear hl
    go_enter Tryd.func30, Tryd.ntmps30
    go_wp2_with fail
    go_ret
    exact ⟨by rw [HE.out]; rfl, .refl _⟩


def Room13 (xs : List Int) (w : World) (e : Ending) (w' : World) : Prop := ∃ g, e = .returned (.slice (some ⟨g, 0, none⟩) xs.length (xs.length + 9)) ∧ w.heap.size ≤ g ∧ Blk w' g .u8 5 (xs ++ mb9) ∧ Below w.heap.size w w'

set_option maxHeartbeats 4000000 in
set_option maxRecDepth 20000 in
theorem roomy13_c (a : Option Addr) (cap : Nat) (xs : List Int) (w : World) (hx : Sl .u8 w a cap xs) (hl : xs.length ≤ 140737488350000) :
    Calls Tryd.prog 36 #[.slice a xs.length cap] w (Room13 xs w) := by
  obtain ⟨n, hn⟩ : ∃ n, n = xs.length := ⟨_, rfl⟩
  have HN := Lib.hid hn
  rw [← hn] at hl ⊢
  clear hn
  go_enter Tryd.func36, Tryd.ntmps36
  go_wp2_with (at_make; refine wpList_make_blk _ rfl _ _ 22 rfl 5 .u8 1 Tryd.underlying22 info8a (n + 9) _ _ rfl rfl (by omega) (by omega) (by omega) (by omega) ?_)
  intro w1 hk1 hs1 hb1
  have hx1 := hx.below hb1
  obtain ⟨G, hG⟩ : ∃ G, G = w.heap.size := ⟨_, rfl⟩
  rw [← hG] at hk1 ⊢
  have hge : w.heap.size ≤ G := by omega
  clear hG hx hs1
  go_wp2_with (with_reducible refine wpList_copy_blk rfl _ _ 22 22 rfl 5 Tryd.underlying22 size8L _ G 0 _ _ _ _ _ rfl rfl .u8 _ xs hk1 hx1.cells HN.out.symm (fun _ _ => rfl) (by rw [List.length_replicate]; omega) ?_)
  intro w2 hk2 hg2 hs2
  have hb2 : Below w.heap.size w w2 := hb1.grown hg2 (by have := hb1.size; omega) (by simp; omega)
  have hk3 : Blk w2 G .u8 5 (xs ++ (List.replicate 0 165 ++ List.replicate (9 - 0) 0)) := by
    have e : xs.take (n + 9) ++ List.replicate (n + 9 - n) (0 : Int) = xs ++ (List.replicate 0 165 ++ List.replicate (9 - 0) 0) := by
      rw [List.take_of_length_le (by rw [← HN.out]; omega), show n + 9 - n = 9 by omega]
      rfl
    have h2 := hk2
    rw [← e]
    simpa [Nat.min_eq_left (show n ≤ n + 9 by omega)] using h2
  clear hk1 hk2 hg2 hb1 hs2 hx1
  go_wp2_with fail
  go_loopw [4] (fun t wr => ∃ j : Nat, j ≤ 9 ∧ t = .int .i64 ((n + j : Nat) : Int) ∧ Blk wr G .u8 5 (xs ++ (List.replicate j 165 ++ List.replicate (9 - j) 0)) ∧ Below w.heap.size w wr)
    (fun t _ => n + 9 - (intOf t).toNat)
  case atStart => exact ⟨0, by omega, by rw [Nat.add_zero], hk3, hb2⟩
  case round =>
    clear hk3 hb2
    obtain ⟨j, hj, rfl, hk, hb⟩ := hrel
    obtain ⟨i, hi⟩ : ∃ i, i = n + j := ⟨_, rfl⟩
    rw [← hi]
    have HI := Lib.hid hi
    by_cases hlt : j < 9
    · have ll : (xs ++ (List.replicate j (165 : Int) ++ List.replicate (9 - j) 0)).length = n + 9 := by simp [HN.out]; omega
      have c0 := hk.cell i (by rw [ll]; omega)
      have f0 := hk.free i
      have hs := hk.set i 165
      have fin : Hid ((xs ++ (List.replicate j 165 ++ List.replicate (9 - j) 0)).set i 165 = xs ++ (List.replicate (j + 1) 165 ++ List.replicate (9 - (j + 1)) 0)) := Lib.hid (by
        rw [List.set_append_right _ _ (by rw [← HN.out]; omega), ← HN.out, List.set_append_right _ _ (by rw [List.length_replicate]; omega), List.length_replicate, show i - n - j = 0 by omega,
          show 9 - j = (9 - (j + 1)) + 1 by omega, List.replicate_succ (n := 9 - (j + 1)), List.set_cons_zero, List.replicate_succ' (n := j), List.append_assoc]
        rfl)
      rw [fin.out] at hs
      have hb' := hb.setCell (p := ⟨G, i, none⟩) hge (.int .u8 165)
      have hin : (i : Int) < (n : Int) + 9 := by omega
      have hin2 : i < n + 9 := by omega
      have hd1 : decide ((i : Int) < (n : Int) + 9) = true := decide_eq_true hin
      clear hk hb ll hi
      go_wp2_with fail
      go_roundw
      case rel => exact ⟨j + 1, by omega, by have := HI.out; go_num, hs, hb'⟩
      case measure => have := HI.out; simp [intOf]; omega
    · obtain rfl : j = 9 := by omega
      have hkf : Blk wr G .u8 5 (xs ++ mb9) := by simpa [mb9] using hk
      have hin : ¬ (i : Int) < (n : Int) + 9 := by omega
      have hin2 : ¬ i < n + 9 := by omega
      have hd1 : decide ((i : Int) < (n : Int) + 9) = false := decide_eq_false hin
      have hcut := fun W => cutH (P := Tryd.prog) W 22 5 Tryd.underlying22 size8L (some ⟨G, 0, none⟩) (n + 9) (n + 9) n (by omega)
      clear hk hi
      go_wp2_with fail
      go_ret
      exact ⟨G, by rw [← HN.out]; first | done | rfl, hge, hkf, hb⟩

set_option maxHeartbeats 4000000 in
set_option maxRecDepth 20000 in
theorem spared13_c (g : Nat) (a : Option Addr) (cap' : Nat) (xs : List Int) (w : World) (hk : Blk w g .u8 5 (xs ++ mb9)) (hx : Sl .u8 w a cap' xs) (hl : xs.length ≤ 140737488350000) :
    Calls Tryd.prog 38 #[.slice (some ⟨g, 0, none⟩) xs.length (xs.length + 9), .slice a xs.length cap'] w (fun e w' => e = .returned (.bool true) ∧ Below w.heap.size w w') := by
  have cm := same13_c _ _ _ _ _ _ w (room_sl hk hl) hx
  rw [show decide (xs = xs) = true from decide_eq_true rfl] at cm
  have cells : ∀ j, j < 9 → w.cell? ⟨g, xs.length + j, none⟩ = some (.int .u8 165) := fun j hj => by
    rw [hk.cell (xs.length + j) (by rw [List.length_append, mb9_len]; omega), nth_append_right]
    unfold mb9
    rw [nth_replicate _ _ _ hj]
  have hcut := fun W => cutH (P := Tryd.prog) W 22 5 Tryd.underlying22 size8L (some ⟨g, 0, none⟩) xs.length (xs.length + 9) (xs.length + 9) (by omega)
  obtain ⟨n, hn⟩ : ∃ n, n = xs.length := ⟨_, rfl⟩
  rw [← hn] at cm hl hcut ⊢
  have e9 : ((n + 9 : Nat) : Int) = (n : Int) + 9 := by omega
  rw [e9] at hcut
  have CELLS := Lib.hid cells
  have HN := Lib.hid hn
  clear cells hn e9
  go_enter Tryd.func38, Tryd.ntmps38
  go_wp2_with fail
  go_loopw [6] (fun t wr => ∃ j : Nat, j ≤ 9 ∧ t = .int .i64 ((n + j : Nat) : Int) ∧ wr = w) (fun t _ => n + 9 - (intOf t).toNat)
  case atStart => exact ⟨0, by omega, by rw [Nat.add_zero], rfl⟩
  case round =>
    obtain ⟨j, hj, rfl, hww⟩ := hrel
    subst hww
    obtain ⟨i, hi⟩ : ∃ i, i = n + j := ⟨_, rfl⟩
    rw [← hi]
    have HI := Lib.hid hi
    by_cases hlt : j < 9
    · have c0 := CELLS.out j hlt
      rw [← HN.out, ← hi] at c0
      have hin : (i : Int) < (n : Int) + 9 := by omega
      have hin2 : i < n + 9 := by omega
      have hd1 : decide ((i : Int) < (n : Int) + 9) = true := decide_eq_true hin
      clear hi cm hcut
      go_wp2_with fail
      go_roundw
      case rel => exact ⟨j + 1, by omega, by have := HI.out; go_num, by trivial⟩
      case measure => have := HI.out; simp [intOf]; omega
    · obtain rfl : j = 9 := by omega
      have hin : ¬ (i : Int) < (n : Int) + 9 := by omega
      have hin2 : ¬ i < n + 9 := by omega
      have hd1 : decide ((i : Int) < (n : Int) + 9) = false := decide_eq_false hin
      clear hi
      go_wp2_with fail
      refine cm.mono ?_; rintro e w1 ⟨rfl, hb⟩
      go_wp2_with fail
      go_ret
      exact ⟨rfl, hb.b⟩

end Go.Proofs.YtlolkighnnedfaaDoor
