/- signetlaw7.roomy, spared, by their contracts. (Printed by gen_lawsevenc.py.) -/
import Derived.Test.YtadldaidbcdaeaaLawSevenA
import Derived.Test.YtadldaidbcdaeaaSliceN
set_option linter.unusedVariables false
set_option linter.unusedSimpArgs false
namespace Go.Proofs.Ytadldaidbcdaeaa
open Go.RowKit Go.Sg

theorem cut_h7 {P : Program} (w : World) (T E : TypeId) (hu : P.underlying T = some (.slice E)) (hs : (P.info? E).map (·.size) = some 1) (a : Option Addr) (n cap h : Nat) (h1 : h ≤ cap) :
    (Instr.sliceAt T (.slice a n cap) none (some (.int .i64 (h : Int))) none).run P w = .ok (.slice a h cap) w := run_to w T E hu hs a n cap h h1 _ rfl
def m4 : List Int := List.replicate 4 2779096485
theorem m4_len : m4.length = 4 := rfl
theorem blk4_sl {w : World} {E : TypeId} {g : Nat} {xs : List Int} (h : Blk w g .u32 E (xs ++ m4)) (hl : xs.length ≤ 35184372088000) : Sl .u32 w (some ⟨g, 0, none⟩) (xs.length + 4) xs := by
  have := h.sl xs.length (xs.length + 4) (by omega) (by omega)
  rwa [List.take_left] at this
def RoomPost7 (xs : List Int) (w : World) (e : Ending) (w' : World) : Prop := ∃ g, e = .returned (.slice (some ⟨g, 0, none⟩) xs.length (xs.length + 4)) ∧ w.heap.size ≤ g ∧ Blk w' g .u32 52 (xs ++ m4) ∧ Below w.heap.size w w'

set_option maxHeartbeats 4000000 in
set_option maxRecDepth 20000 in
theorem roomy7_c (a : Option Addr) (cap : Nat) (xs : List Int) (w : World) (hx : Sl .u32 w a cap xs) (hl : xs.length ≤ 35184372088000) :
    Calls Try.prog 74 #[.slice a xs.length cap] w (RoomPost7 xs w) := by
  obtain ⟨n, hn⟩ : ∃ n, n = xs.length := ⟨_, rfl⟩
  have HN := Lib.hid hn
  rw [← hn] at hl ⊢
  clear hn
  go_enter Try.func74, Try.ntmps74
  go_wp2_with (at_make; refine wpList_make_blk _ rfl _ _ 30 rfl 52 .u32 4 Try.underlying30 info32 (n + 4) _ _ rfl rfl (by omega) (by omega) (by omega) (by omega) ?_)
  intro w1 hk1 hs1 hb1
  have hx1 := hx.below hb1
  obtain ⟨G, hG⟩ : ∃ G, G = w.heap.size := ⟨_, rfl⟩
  rw [← hG] at hk1 ⊢
  have hge : w.heap.size ≤ G := by omega
  clear hG hx hs1
  go_wp2_with (with_reducible refine wpList_copy_blk rfl _ _ 30 30 rfl 52 Try.underlying30 size32 _ G 0 _ _ _ _ _ rfl rfl .u32 _ xs hk1 hx1.cells HN.out.symm (fun _ _ => rfl) (by rw [List.length_replicate]; omega) ?_)
  intro w2 hk2 hg2 hs2
  have hb2 : Below w.heap.size w w2 := hb1.grown hg2 (by have := hb1.size; omega) (by simp; omega)
  have hk3 : Blk w2 G .u32 52 (xs ++ (List.replicate 0 2779096485 ++ List.replicate (4 - 0) 0)) := by
    have e : xs.take (n + 4) ++ List.replicate (n + 4 - n) (0 : Int) = xs ++ (List.replicate 0 2779096485 ++ List.replicate (4 - 0) 0) := by
      rw [List.take_of_length_le (by rw [← HN.out]; omega), show n + 4 - n = 4 by omega]
      rfl
    have h2 := hk2
    rw [← e]
    simpa [Nat.min_eq_left (show n ≤ n + 4 by omega)] using h2
  clear hk1 hk2 hg2 hb1 hs2 hx1
  go_wp2_with fail
  go_loopw [4] (fun t wr => ∃ j : Nat, j ≤ 4 ∧ t = .int .i64 ((n + j : Nat) : Int) ∧ Blk wr G .u32 52 (xs ++ (List.replicate j 2779096485 ++ List.replicate (4 - j) 0)) ∧ Below w.heap.size w wr)
    (fun t _ => n + 4 - (intOf t).toNat)
  case atStart => exact ⟨0, by omega, by rw [Nat.add_zero], hk3, hb2⟩
  case round =>
    clear hk3 hb2
    obtain ⟨j, hj, rfl, hk, hb⟩ := hrel
    obtain ⟨i, hi⟩ : ∃ i, i = n + j := ⟨_, rfl⟩
    rw [← hi]
    have HI := Lib.hid hi
    by_cases hlt : j < 4
    · have ll : (xs ++ (List.replicate j (2779096485 : Int) ++ List.replicate (4 - j) 0)).length = n + 4 := by simp [HN.out]; omega
      have c0 := hk.cell i (by rw [ll]; omega)
      have f0 := hk.free i
      have hs := hk.set i 2779096485
      have fin : Hid ((xs ++ (List.replicate j 2779096485 ++ List.replicate (4 - j) 0)).set i 2779096485 = xs ++ (List.replicate (j + 1) 2779096485 ++ List.replicate (4 - (j + 1)) 0)) := Lib.hid (by
        rw [List.set_append_right _ _ (by rw [← HN.out]; omega), ← HN.out, List.set_append_right _ _ (by rw [List.length_replicate]; omega), List.length_replicate, show i - n - j = 0 by omega,
          show 4 - j = (4 - (j + 1)) + 1 by omega, List.replicate_succ (n := 4 - (j + 1)), List.set_cons_zero, List.replicate_succ' (n := j), List.append_assoc]
        rfl)
      rw [fin.out] at hs
      have hb' := hb.setCell (p := ⟨G, i, none⟩) hge (.int .u32 2779096485)
      have hin : (i : Int) < (n : Int) + 4 := by omega
      have hin2 : i < n + 4 := by omega
      have hd1 : decide ((i : Int) < (n : Int) + 4) = true := decide_eq_true hin
      clear hk hb ll hi
      go_wp2_with fail
      go_roundw
      case rel => exact ⟨j + 1, by omega, by have := HI.out; go_num, hs, hb'⟩
      case measure => have := HI.out; simp [intOf]; omega
    · obtain rfl : j = 4 := by omega
      have hkf : Blk wr G .u32 52 (xs ++ m4) := by simpa [m4] using hk
      have hin : ¬ (i : Int) < (n : Int) + 4 := by omega
      have hin2 : ¬ i < n + 4 := by omega
      have hd1 : decide ((i : Int) < (n : Int) + 4) = false := decide_eq_false hin
      have hcut := fun W => cut_h7 (P := Try.prog) W 30 52 Try.underlying30 size32 (some ⟨G, 0, none⟩) (n + 4) (n + 4) n (by omega)
      clear hk hi
      go_wp2_with fail
      go_ret
      exact ⟨G, by rw [← HN.out]; first | done | rfl, hge, hkf, hb⟩

set_option maxHeartbeats 4000000 in
set_option maxRecDepth 20000 in
theorem spared7_c (g : Nat) (a : Option Addr) (cap' : Nat) (xs : List Int) (w : World) (hk : Blk w g .u32 52 (xs ++ m4)) (hx : Sl .u32 w a cap' xs) (ux : U32 xs) (hl : xs.length ≤ 35184372088000) :
    Calls Try.prog 75 #[.slice (some ⟨g, 0, none⟩) xs.length (xs.length + 4), .slice a xs.length cap'] w (BoolPost true w) := by
  have cm := same7_c _ _ _ _ _ _ w (blk4_sl hk hl) hx
  rw [show decide (xs = xs) = true from decide_eq_true rfl] at cm
  have cells : ∀ j, j < 4 → w.cell? ⟨g, xs.length + j, none⟩ = some (.int .u32 2779096485) := fun j hj => by
    rw [hk.cell (xs.length + j) (by rw [List.length_append, m4_len]; omega), nth_append_right]
    unfold m4
    rw [nth_replicate _ _ _ hj]
  have hcut := fun W => cut_h7 (P := Try.prog) W 30 52 Try.underlying30 size32 (some ⟨g, 0, none⟩) xs.length (xs.length + 4) (xs.length + 4) (by omega)
  obtain ⟨n, hn⟩ : ∃ n, n = xs.length := ⟨_, rfl⟩
  rw [← hn] at cm hl hcut ⊢
  have e4 : ((n + 4 : Nat) : Int) = (n : Int) + 4 := by omega
  rw [e4] at hcut
  have CELLS := Lib.hid cells
  have HN := Lib.hid hn
  clear cells hn e4
  go_enter Try.func75, Try.ntmps75
  go_wp2_with fail
  go_loopw [6] (fun t wr => ∃ j : Nat, j ≤ 4 ∧ t = .int .i64 ((n + j : Nat) : Int) ∧ wr = w) (fun t _ => n + 4 - (intOf t).toNat)
  case atStart => exact ⟨0, by omega, by rw [Nat.add_zero], rfl⟩
  case round =>
    obtain ⟨j, hj, rfl, hww⟩ := hrel
    subst hww
    obtain ⟨i, hi⟩ : ∃ i, i = n + j := ⟨_, rfl⟩
    rw [← hi]
    have HI := Lib.hid hi
    by_cases hlt : j < 4
    · have c0 := CELLS.out j hlt
      rw [← HN.out, ← hi] at c0
      have hin : (i : Int) < (n : Int) + 4 := by omega
      have hin2 : i < n + 4 := by omega
      have hd1 : decide ((i : Int) < (n : Int) + 4) = true := decide_eq_true hin
      clear hi cm hcut
      go_wp2_with fail
      go_roundw
      case rel => exact ⟨j + 1, by omega, by have := HI.out; go_num, by trivial⟩
      case measure => have := HI.out; simp [intOf]; omega
    · obtain rfl : j = 4 := by omega
      have hin : ¬ (i : Int) < (n : Int) + 4 := by omega
      have hin2 : ¬ i < n + 4 := by omega
      have hd1 : decide ((i : Int) < (n : Int) + 4) = false := decide_eq_false hin
      clear hi
      go_wp2_with fail
      refine cm.mono ?_; rintro e w1 ⟨rfl, hb⟩
      go_wp2_with fail
      go_ret
      exact ⟨rfl, hb⟩

end Go.Proofs.Ytadldaidbcdaeaa
