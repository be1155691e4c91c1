/- package nat: FromBytes, Uint, by their contracts. -/
import Derived.Test.YtnlmkikaaifcmaaNatA
import Derived.BigRegion
set_option linter.unusedVariables false
set_option linter.unusedSimpArgs false
namespace Go.Proofs.Ytnlmkikaaifcmaa
open Go.RowKit Go.Sg

theorem info32 : (Try.prog.info? 25).map (fun i => (i.zero, i.size, i.bytes)) = some (some (.int .u32 0), 1, 4) := by kernel_rfl
theorem info8 : (Try.prog.info? 5).map (fun i => (i.zero, i.size, i.bytes)) = some (some (.int .u8 0), 1, 1) := by kernel_rfl

/-- The number n, in new memory, without noughts on top. -/
def NatRes (B : Nat) (w : World) (v : Value) (n : Nat) : Prop := ∃ zs, New B .u32 25 w v zs ∧ Canon zs ∧ U32 zs ∧ val zs = n
def NatPost (n : Nat) (w : World) (e : Ending) (w' : World) : Prop := ∃ v, e = .returned v ∧ NatRes w.heap.size w' v n ∧ Below w.heap.size w w'

theorem NatRes.of_blk {B g n : Nat} {w : World} {L : List Int} (h : Blk w g .u32 25 L) (hB : B ≤ g) (hu : U32 L) (hv : val L = n) (hl : L.length ≤ 9223372036854775807) : NatRes B w (.slice (some ⟨g, 0, none⟩) (norm L).length (norm L).length) n := by
  have h1 := topz_le L
  refine ⟨norm L, ?_, Canon.norm L, hu.norm, by rw [val_norm, hv]⟩
  rw [length_norm]
  exact New.of_blk h hB (topz L) (topz L) (Nat.le_refl _) h1 (by omega)

set_option maxHeartbeats 400000 in
theorem FromBytes_c (a : Option Addr) (cap : Nat) (bs : List Int) (w : World) (hc : Sl .u8 w a cap bs) (ub : U8 bs) (hl : bs.length ≤ 140737488355328) :
    Calls Try.prog 17 #[.slice a bs.length cap] w (NatPost (bval bs) w) := by
  go_enter Try.func17, Try.ntmps17
  obtain ⟨n, hn⟩ : ∃ n, n = (bs.length + 3) / 4 := ⟨_, rfl⟩
  have E4 : Hid (((bs.length : Int) + 3) / 4 = (n : Int)) := Lib.hid (by omega)
  have hn1 : 4 * n ≤ bs.length + 3 := by omega
  have Hn := Lib.hid hn
  clear hn
  go_wp2_with (at_make; refine wpList_make_blk _ rfl _ _ 22 rfl 25 .u32 4 Try.underlying22 info32 n _ _ rfl rfl E4.out E4.out (by omega) (by omega) ?_)
  intro w1 hk1 hs1 hb1
  have hs := Lib.hid hs1
  clear hs1
  go_wp2_with fail
  go_loopw [14] (fun t wr => ∃ i : Nat, i ≤ bs.length ∧ t = .int .i64 (i : Int) ∧ ∃ L, Blk wr w.heap.size .u32 25 L ∧ L.length = n ∧ U32 L ∧ FbInv bs L i ∧ Below w.heap.size w wr)
    (fun t _ => bs.length - (intOf t).toNat)
  case atStart => exact ⟨0, by omega, rfl, _, hk1, by simp, .zeros (by omega) _, .start _ _, hb1⟩
  case round =>
    obtain ⟨i, hi, rfl, L, hL, hLn, hu, hF, hb⟩ := hrel
    have HLn := Lib.hid hLn; clear hLn
    by_cases hlt : i < bs.length
    · obtain ⟨b, off, rfl, hcc⟩ := hc.cells (by omega)
      have hcb : wr.cell? ⟨b, off + i, none⟩ = some (.int .u8 (nth bs i)) := (hb.cell (World.block_lt_of_cell? w _ (hcc i hlt))).trans (hcc i hlt)
      have hbi := ub i
      obtain ⟨at_, hat⟩ : ∃ at_, at_ = bs.length - 1 - i := ⟨_, rfl⟩
      have eat : ((bs.length : Int) - 1 - (i : Int)) = (at_ : Int) := by omega
      have hq : at_ / 4 < L.length := by have := HLn.out; have := Hn.out; omega
      have hcl := hL.cell (at_ / 4) hq
      have hfr := hL.free (at_ / 4)
      have hln : at_ / 4 < n := by have := HLn.out; omega
      have hul := hu (at_ / 4)
      have HS := Lib.hid (hF.step ub hu hlt at_ hat hq)
      have Hat := Lib.hid hat
      clear hcc hat hq
      go_wp2_with fail
      go_region
      all_goals go_wp2
      go_roundw
      case rel =>
        obtain ⟨y, hy, y0, y1, hF'⟩ := HS.out
        rw [hy]
        exact ⟨i + 1, by omega, by go_num, L.set (at_ / 4) y, hL.set _ _, by have := HLn.out; simpa using this, hu.set _ y0 y1, hF', (hb.setCell (Nat.le_refl _) _).drew⟩
      case measure => simp [intOf]; omega
    · obtain rfl : i = bs.length := by omega
      have hv := Lib.hid hF.done
      have HS : Hid (Sl .u32 wr (some ⟨w.heap.size, 0, none⟩) n L) := Lib.hid (by have e := HLn.out; have := hL.sl_full (by rw [e]; omega); rwa [e] at this)
      clear hF
      go_wp2_with fail
      rw [← HLn.out]
      refine (proper_c _ _ _ _ (by rw [HLn.out]; exact HS.out)).mono ?_; rintro e w' ⟨rfl, rfl⟩
      go_wp2_with fail
      go_ret
      exact ⟨_, rfl, .of_blk hL (Nat.le_refl _) hu hv.out (by rw [HLn.out]; omega), hb⟩

/-! ### Uint -/
def uintV (n : Nat) : Int := if n < R ^ 2 then (n : Int) else 0
def uintB (n : Nat) : Bool := decide (n < R ^ 2)
def UintPost (n : Nat) (w : World) (e : Ending) (w' : World) : Prop := e = .returned (.tuple #[.int .u64 (uintV n), .bool (uintB n)]) ∧ w = w'

theorem or_u64 (u c : Nat) (k : Nat) (hk : k < 2) (hu : u < R ^ k) (hc : c < R) : bits .or .u64 (u : Int) ((c : Int) * 2 ^ (32 * k) % 18446744073709551616) = ((u + R ^ k * c : Nat) : Int) ∧ u + R ^ k * c < 18446744073709551616 := by
  unfold R at hc
  rcases (show k = 0 ∨ k = 1 by omega) with rfl | rfl
  · obtain rfl : u = 0 := by simpa using hu
    have e : ((c : Int) * 2 ^ (32 * 0) % 18446744073709551616) = (c : Int) := by simp; omega
    rw [e]
    have := u64_or_nat 0 c (by omega) (by omega)
    simp only [Nat.zero_or] at this
    refine ⟨by simpa using this, by simp; omega⟩
  · have hu' : u < 4294967296 := by simpa [R] using hu
    have e : ((c : Int) * 2 ^ (32 * 1) % 18446744073709551616) = ((4294967296 * c : Nat) : Int) := by
      rw [show (2 : Int) ^ (32 * 1) = 4294967296 from rfl]; omega
    rw [e, u64_or_nat _ _ (by omega) (by omega), show R ^ 1 = 4294967296 from rfl]
    have := nat_join 32 (4294967296 * c) u (by omega) (by omega)
    rw [Nat.or_comm] at this
    rw [this]
    exact ⟨by omega, by omega⟩

set_option maxHeartbeats 800000 in
theorem Uint_c (a : Option Addr) (cap : Nat) (zs : List Int) (w : World) (hc : Sl .u32 w a cap zs) (ux : U32 zs) :
    Calls Try.prog 16 #[.slice a zs.length cap] w (UintPost (val zs) w) := by
  go_enter Try.func16, Try.ntmps16
  go_wp2_with fail
  refine (value_c a cap zs _ hc).mono ?_; rintro e w' ⟨rfl, rfl⟩
  have hx := Sl.norm hc
  have ex := Lib.hid (val_norm zs).symm
  have cx := Canon.norm zs
  have vx := ux.norm
  clear ux
  generalize norm zs = x at *
  have hm := hx.max
  by_cases h2 : 2 < x.length
  · have hv : Hid (R ^ 2 ≤ val x) := Lib.hid (Nat.le_trans (Nat.pow_le_pow_right R_pos (by omega)) (cx.ge vx (by omega)))
    go_wp2_with fail
    go_ret2
    refine ⟨?_, rfl⟩
    have := hv.out
    rw [ex.out, uintV, uintB, if_neg (Nat.not_lt.2 this), decide_eq_false (Nat.not_lt.2 this)]
    rfl
  · have hv : Hid (val x < R ^ 2) := Lib.hid (Nat.lt_of_lt_of_le (val_lt vx) (Nat.pow_le_pow_right R_pos (by omega)))
    go_wp2_with fail
    go_loop [5, 15] (fun u t => ∃ k : Nat, k ≤ x.length ∧ t = .int .i64 (k : Int) ∧ u = .int .u64 ((val (x.take k) : Nat) : Int))
      (fun _ t => x.length - (intOf t).toNat)
    case atStart => exact ⟨0, by omega, rfl, rfl⟩
    case round =>
      obtain ⟨k, hk, rfl, rfl⟩ := hrel
      by_cases hlt : k < x.length
      · obtain ⟨b, off, rfl, hcc⟩ := hx.cells (by omega)
        have hcell := hcc k hlt
        have hbk := vx k
        have ho := or_u64 (val (x.take k)) (lb x k) k (by omega) (val_take_lt vx k (by omega)) (lb_lt vx k)
        rw [lb_cast vx, ← val_take_succ x k hlt] at ho
        have H := Lib.hid ho.1
        have hku : (32 * (k : Int)) ≤ 32 := by omega
        clear hcc ho
        go_wp2_with fail
        go_round
        case rel => exact ⟨k + 1, by omega, by go_num, by rw [← H.out, IntKind.wrap_u64]⟩
        case measure => simp [intOf]; omega
      · obtain rfl : k = x.length := by omega
        go_wp2_with fail
        go_ret2
        refine ⟨?_, rfl⟩
        have := hv.out
        rw [ex.out, uintV, uintB, if_pos this, decide_eq_true this]
        simp
end Go.Proofs.Ytnlmkikaaifcmaa
