/- signetref6: limb, Proper, FromBytes, Cmp, Bits, Bit, by their contracts. -/
import Derived.Test.YtadldaidbcdaeaaNatB
set_option linter.unusedVariables false
set_option linter.unusedSimpArgs false
namespace Go.Proofs.Ytadldaidbcdaeaa
open Go.RowKit Go.Sg

theorem rlimb_c (a : Option Addr) (cap i : Nat) (zs : List Int) (w : World) (hc : Sl .u32 w a cap zs) (ux : U32 zs) (hi : i ≤ 9223372036854775807) :
    Calls Try.prog 79 #[.slice a zs.length cap, .int .i64 (i : Int)] w fun e w' => e = .returned (.int .u64 (nth zs i)) ∧ w = w' := by
  have hm := hc.max
  have hl := hc.le
  by_cases h : zs.length ≤ i
  · have h0 := Lib.hid (nth_out zs i h)
    go_enter Try.func79, Try.ntmps79
    go_wp2
    go_ret
    exact ⟨by rw [h0.out]; rfl, rfl⟩
  · obtain ⟨b, off, rfl, hcc⟩ := hc.cells (by omega)
    have hcell := hcc i (by omega)
    have hb := ux i
    have hlt : i < zs.length := by omega
    clear hcc
    go_enter Try.func79, Try.ntmps79
    go_wp2
    go_ret
    exact ⟨rfl, rfl⟩

/-- New memory that reads as these numbers. -/
def RowPost (k : IntKind) (E : TypeId) (xs : List Int) (w : World) (e : Ending) (w' : World) : Prop := ∃ v, e = .returned v ∧ New w.heap.size k E w' v xs ∧ Below w.heap.size w w'

set_option maxHeartbeats 1000000 in
theorem rProper_c (a : Option Addr) (cap : Nat) (zs : List Int) (w : World) (hc : Sl .u32 w a cap zs) (hlen : zs.length ≤ 35184372088832) :
    Calls Try.prog 80 #[.slice a zs.length cap] w (RowPost .u32 52 (norm zs) w) := by
  have hm := hc.max
  go_enter Try.func80, Try.ntmps80
  go_wp2_with fail
  go_loop [3] (fun t => ∃ k : Nat, k ≤ zs.length ∧ t = .int .i64 (k : Int) ∧ topz zs = topz (zs.take k))
    (fun t => (intOf t).toNat)
  case atStart => exact ⟨zs.length, Nat.le_refl _, rfl, by simp⟩
  case round =>
    obtain ⟨k, hk, rfl, hz⟩ := hrel
    have HZ := Lib.hid hz; clear hz
    by_cases h0 : 0 < k ∧ nth zs (k - 1) = 0
    · obtain ⟨h0, h1⟩ := h0
      obtain ⟨b, off, rfl, hcc⟩ := hc.cells (by omega)
      have hcell := hcc (k - 1) (by omega)
      rw [h1] at hcell
      have H1 := Lib.hid h1
      have hx : 0 < (k : Int) := by omega
      have hx1 : (1 : Int) ≤ (k : Int) := by omega
      clear hcc h1
      go_wp2_with fail
      go_round
      case rel => exact ⟨k - 1, by omega, by go_num, by rw [HZ.out]; exact topz_down _ _ h0 hk H1.out⟩
      case measure => simp [intOf]; omega
    · have hk2 : k = topz zs := by
        rw [HZ.out]
        by_cases hp : 0 < k
        · exact (topz_stop _ _ hp hk (fun h => h0 ⟨hp, h⟩)).symm
        · obtain rfl : k = 0 := by omega
          rfl
      have HK := Lib.hid hk2
      have hcell : 0 < k → ∃ b off, a = some ⟨b, off, none⟩ ∧ w.cell? ⟨b, off + (k - 1), none⟩ = some (.int .u32 (nth zs (k - 1))) ∧ (nth zs (k - 1) == 0) = false := by
        intro hp
        obtain ⟨b, off, ha, hcc⟩ := hc.cells (by omega)
        exact ⟨b, off, ha, hcc _ (by omega), beq_false_of_ne fun h => h0 ⟨hp, h⟩⟩
      have hxx : 0 < k → (0 < (k : Int)) ∧ (1 : Int) ≤ (k : Int) := fun h => by omega
      clear hk2 h0
      rcases Nat.eq_zero_or_pos k with hp | hp
      · subst hp
        go_wp2_with fail
        go_loopw [4, 5] (fun v t wr => ∃ j : Nat, j ≤ 0 ∧ t = .int .i64 (j : Int) ∧ New w.heap.size .u32 52 wr v (zs.take j) ∧ Below w.heap.size w wr)
          (fun _ t _ => 0 - (intOf t).toNat)
        case atStart => exact ⟨0, by omega, rfl, .nil _ _ _ _, .refl _ _⟩
        case round =>
          obtain ⟨j, hj, rfl, hv, hb⟩ := hrel
          obtain rfl : j = 0 := by omega
          go_wp2_with fail
          go_ret
          exact ⟨_, rfl, by rw [norm, ← HK.out]; exact hv, hb⟩
      · obtain ⟨b, off, rfl, hcc, hne⟩ := hcell hp
        obtain ⟨hx, hx1⟩ := hxx hp
        go_wp2_with fail
        go_loopw [4, 5] (fun v t wr => ∃ j : Nat, j ≤ k ∧ t = .int .i64 (j : Int) ∧ New w.heap.size .u32 52 wr v (zs.take j) ∧ Below w.heap.size w wr)
          (fun _ t _ => k - (intOf t).toNat)
        case atStart => exact ⟨0, by omega, rfl, .nil _ _ _ _, .refl _ _⟩
        case round =>
          obtain ⟨j, hj, rfl, hv, hb⟩ := hrel
          by_cases hlt : j < k
          · obtain ⟨b1, off1, ha1, hcc1⟩ := hc.cells (by omega)
            simp only [Option.some.injEq, Addr.mk.injEq, and_true] at ha1
            obtain ⟨rfl, rfl⟩ := ha1
            have hcw := (hb.cell (World.block_lt_of_cell? w _ (hcc1 j (by omega)))).trans (hcc1 j (by omega))
            have hjl : (zs.take j).length = j := by simp; omega
            have HJ := Lib.hid hjl
            have hbs := hb.size
            clear hcc1 hjl
            go_wp2_with (at_builtin; refine wpList_append_new _ rfl _ _ 30 rfl w.heap.size 52 .u32 4 Try.underlying30 info32 _ _ rfl (hv.alloc _) _ _ 1 [nth zs j] rfl rfl (cells_one _ _ _ _ _ rfl) (by rw [HJ.out]; simp; omega) (by rw [HJ.out]; simp; omega) (by simp; omega) ?_)
            intro v' w' hv' hg _
            have hb' : Below w.heap.size w w' := (hb.alloc (by omega) _).grown hg (by simp; omega) fun g hg => (hv.lt g hg).1
            rw [← take_succ_nth _ _ (by omega)] at hv'
            clear hg hv hb hbs
            go_wp2_with fail
            go_roundw
            case rel => exact ⟨j + 1, by omega, by go_num, hv', hb'⟩
            case measure => simp [intOf]; omega
          · obtain rfl : j = k := by omega
            go_wp2_with fail
            go_ret
            exact ⟨_, rfl, by rw [norm, ← HK.out]; exact hv, hb⟩
end Go.Proofs.Ytadldaidbcdaeaa
