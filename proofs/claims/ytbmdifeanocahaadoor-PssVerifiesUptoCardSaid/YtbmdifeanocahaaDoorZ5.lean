import Derived.Test.YtbmdifeanocahaaDoorZ4
import Derived.BigRegion
import Derived.Test.YtbmdifeanocahaaDoorZ2
/- package nat: FromBytes, Uint, by their contracts. -/
set_option linter.unusedVariables false
set_option linter.unusedSimpArgs false
namespace Go.Proofs.YtbmdifeanocahaaDoor
open Go.RowKit Go.Sg

theorem info32 : (Tryd.prog.info? 51).map (fun i => (i.zero, i.size, i.bytes)) = some (some (.int .u32 0), 1, 4) := by kernel_rfl
theorem info8 : (Tryd.prog.info? 5).map (fun i => (i.zero, i.size, i.bytes)) = some (some (.int .u8 0), 1, 1) := by kernel_rfl

/-- The number n, in new memory, without noughts on top. -/
def NatRes (B : Nat) (w : World) (v : Value) (n : Nat) : Prop := ∃ zs, New B .u32 51 w v zs ∧ Canon zs ∧ U32 zs ∧ val zs = n
def NatPost (n : Nat) (w : World) (e : Ending) (w' : World) : Prop := ∃ v, e = .returned v ∧ NatRes w.heap.size w' v n ∧ Below w.heap.size w w'

theorem NatRes.of_blk {B g n : Nat} {w : World} {L : List Int} (h : Blk w g .u32 51 L) (hB : B ≤ g) (hu : U32 L) (hv : val L = n) (hl : L.length ≤ 9223372036854775807) : NatRes B w (.slice (some ⟨g, 0, none⟩) (norm L).length (norm L).length) n := by
  have h1 := topz_le L
  refine ⟨norm L, ?_, Canon.norm L, hu.norm, by rw [val_norm, hv]⟩
  rw [length_norm]
  exact New.of_blk h hB (topz L) (topz L) (Nat.le_refl _) h1 (by omega)

set_option maxHeartbeats 400000 in
theorem FromBytes_c (a : Option Addr) (cap : Nat) (bs : List Int) (w : World) (hc : Sl .u8 w a cap bs) (ub : U8 bs) (hl : bs.length ≤ 140737488355328) :
    Calls Tryd.prog 22 #[.slice a bs.length cap] w (NatPost (bval bs) w) := by
  go_enter Tryd.func22, Tryd.ntmps22
  obtain ⟨n, hn⟩ : ∃ n, n = (bs.length + 3) / 4 := ⟨_, rfl⟩
  have E4 : Hid (((bs.length : Int) + 3) / 4 = (n : Int)) := Lib.hid (by omega)
  have hn1 : 4 * n ≤ bs.length + 3 := by omega
  have Hn := Lib.hid hn
  clear hn
  go_wp2_with (at_make; refine wpList_make_blk _ rfl _ _ 37 rfl 51 .u32 4 Tryd.underlying37 info32 n _ _ rfl rfl E4.out E4.out (by omega) (by omega) ?_)
  intro w1 hk1 hs1 hb1
  have hs := Lib.hid hs1
  clear hs1
  go_wp2_with fail
  go_loopw [14] (fun t wr => ∃ i : Nat, i ≤ bs.length ∧ t = .int .i64 (i : Int) ∧ ∃ L, Blk wr w.heap.size .u32 51 L ∧ L.length = n ∧ U32 L ∧ FbInv bs L i ∧ Below w.heap.size w wr)
    (fun t _ => bs.length - (intOf t).toNat)
  case atStart => exact ⟨0, by omega, rfl, _, hk1, by simp, .zeros (by omega) _, .start _ _, hb1⟩
  case round =>
    obtain ⟨i, hi, rfl, L, hL, hLn, hu, hF, hb⟩ := hrel
    have HLn := Lib.hid hLn; clear hLn
    by_cases hlt : i < bs.length
    · obtain ⟨b, off, rfl, hcc⟩ := hc.cells (by omega)
      have hcb : wr.cell? ⟨b, off + i, none⟩ = some (.int .u8 (nth bs i)) := (hb.cell (World.block_lt_of_cell? w _ (hcc i hlt))).trans (hcc i hlt)
      have hbi := ub i
      obtain ⟨at_, hat⟩ : ∃ at_, at_ = bs.length - 1 - i := ⟨_, rfl⟩
      have eat : ((bs.length : Int) - 1 - (i : Int)) = (at_ : Int) := by omega
      have hq : at_ / 4 < L.length := by have := HLn.out; have := Hn.out; omega
      have hcl := hL.cell (at_ / 4) hq
      have hfr := hL.free (at_ / 4)
      have hln : at_ / 4 < n := by have := HLn.out; omega
      have hul := hu (at_ / 4)
      have HS := Lib.hid (hF.step ub hu hlt at_ hat hq)
      have Hat := Lib.hid hat
      clear hcc hat hq
      go_wp2_with fail
      go_region
      all_goals go_wp2
      go_roundw
      case rel =>
        obtain ⟨y, hy, y0, y1, hF'⟩ := HS.out
        rw [hy]
        exact ⟨i + 1, by omega, by go_num, L.set (at_ / 4) y, hL.set _ _, by have := HLn.out; simpa using this, hu.set _ y0 y1, hF', (hb.setCell (Nat.le_refl _) _).drew⟩
      case measure => simp [intOf]; omega
    · obtain rfl : i = bs.length := by omega
      have hv := Lib.hid hF.done
      have HS : Hid (Sl .u32 wr (some ⟨w.heap.size, 0, none⟩) n L) := Lib.hid (by have e := HLn.out; have := hL.sl_full (by rw [e]; omega); rwa [e] at this)
      clear hF
      go_wp2_with fail
      rw [← HLn.out]
      refine (proper_c _ _ _ _ (by rw [HLn.out]; exact HS.out)).mono ?_; rintro e w' ⟨rfl, rfl⟩
      go_wp2_with fail
      go_ret
      exact ⟨_, rfl, .of_blk hL (Nat.le_refl _) hu hv.out (by rw [HLn.out]; omega), hb⟩

/-! ### Uint -/
def uintV (n : Nat) : Int := if n < R ^ 2 then (n : Int) else 0
def uintB (n : Nat) : Bool := decide (n < R ^ 2)
def UintPost (n : Nat) (w : World) (e : Ending) (w' : World) : Prop := e = .returned (.tuple #[.int .u64 (uintV n), .bool (uintB n)]) ∧ w = w'

theorem or_u64 (u c : Nat) (k : Nat) (hk : k < 2) (hu : u < R ^ k) (hc : c < R) : bits .or .u64 (u : Int) ((c : Int) * 2 ^ (32 * k) % 18446744073709551616) = ((u + R ^ k * c : Nat) : Int) ∧ u + R ^ k * c < 18446744073709551616 := by
  unfold R at hc
  rcases (show k = 0 ∨ k = 1 by omega) with rfl | rfl
  · obtain rfl : u = 0 := by simpa using hu
    have e : ((c : Int) * 2 ^ (32 * 0) % 18446744073709551616) = (c : Int) := by simp; omega
    rw [e]
    have := u64_or_nat 0 c (by omega) (by omega)
    simp only [Nat.zero_or] at this
    refine ⟨by simpa using this, by simp; omega⟩
  · have hu' : u < 4294967296 := by simpa [R] using hu
    have e : ((c : Int) * 2 ^ (32 * 1) % 18446744073709551616) = ((4294967296 * c : Nat) : Int) := by
      rw [show (2 : Int) ^ (32 * 1) = 4294967296 from rfl]; omega
    rw [e, u64_or_nat _ _ (by omega) (by omega), show R ^ 1 = 4294967296 from rfl]
    have := nat_join 32 (4294967296 * c) u (by omega) (by omega)
    rw [Nat.or_comm] at this
    rw [this]
    exact ⟨by omega, by omega⟩

set_option maxHeartbeats 800000 in
theorem Uint_c (a : Option Addr) (cap : Nat) (zs : List Int) (w : World) (hc : Sl .u32 w a cap zs) (ux : U32 zs) :
    Calls Tryd.prog 49 #[.slice a zs.length cap] w (UintPost (val zs) w) := by
  go_enter Tryd.func49, Tryd.ntmps49
  go_wp2_with fail
  refine (value_c a cap zs _ hc).mono ?_; rintro e w' ⟨rfl, rfl⟩
  have hx := Sl.norm hc
  have ex := Lib.hid (val_norm zs).symm
  have cx := Canon.norm zs
  have vx := ux.norm
  clear ux
  generalize norm zs = x at *
  have hm := hx.max
  by_cases h2 : 2 < x.length
  · have hv : Hid (R ^ 2 ≤ val x) := Lib.hid (Nat.le_trans (Nat.pow_le_pow_right R_pos (by omega)) (cx.ge vx (by omega)))
    go_wp2_with fail
    go_ret2
    refine ⟨?_, rfl⟩
    have := hv.out
    rw [ex.out, uintV, uintB, if_neg (Nat.not_lt.2 this), decide_eq_false (Nat.not_lt.2 this)]
    rfl
  · have hv : Hid (val x < R ^ 2) := Lib.hid (Nat.lt_of_lt_of_le (val_lt vx) (Nat.pow_le_pow_right R_pos (by omega)))
    go_wp2_with fail
    go_loop [5, 15] (fun u t => ∃ k : Nat, k ≤ x.length ∧ t = .int .i64 (k : Int) ∧ u = .int .u64 ((val (x.take k) : Nat) : Int))
      (fun _ t => x.length - (intOf t).toNat)
    case atStart => exact ⟨0, by omega, rfl, rfl⟩
    case round =>
      obtain ⟨k, hk, rfl, rfl⟩ := hrel
      by_cases hlt : k < x.length
      · obtain ⟨b, off, rfl, hcc⟩ := hx.cells (by omega)
        have hcell := hcc k hlt
        have hbk := vx k
        have ho := or_u64 (val (x.take k)) (lb x k) k (by omega) (val_take_lt vx k (by omega)) (lb_lt vx k)
        rw [lb_cast vx, ← val_take_succ x k hlt] at ho
        have H := Lib.hid ho.1
        have hku : (32 * (k : Int)) ≤ 32 := by omega
        clear hcc ho
        go_wp2_with fail
        go_round
        case rel => exact ⟨k + 1, by omega, by go_num, by rw [← H.out, IntKind.wrap_u64]⟩
        case measure => simp [intOf]; omega
      · obtain rfl : k = x.length := by omega
        go_wp2_with fail
        go_ret2
        refine ⟨?_, rfl⟩
        have := hv.out
        rw [ex.out, uintV, uintB, if_pos this, decide_eq_true this]
        simp
end Go.Proofs.YtbmdifeanocahaaDoor
/- math/bits.Sub32; nat.take, Add, Mul, by their contracts. -/
set_option linter.unusedVariables false
set_option linter.unusedSimpArgs false
namespace Go.Proofs.YtbmdifeanocahaaDoor
open Go.RowKit Go.Sg

theorem tb31 (x : Nat) (h : x < 4294967296) : x / 2147483648 = (x.testBit 31).toNat := by
  rw [Nat.testBit_eq_decide_div_mod_eq]
  have e : x / 2 ^ 31 % 2 = x / 2147483648 := by
    rw [show (2 : Nat) ^ 31 = 2147483648 from rfl]; omega
  rw [e]
  rcases (show x / 2147483648 = 0 ∨ x / 2147483648 = 1 by omega) with h | h <;> rw [h] <;> rfl
theorem tb31' (x : Nat) (h : x < 4294967296) : x.testBit 31 = decide (2147483648 ≤ x) := by
  rw [Nat.testBit_eq_decide_div_mod_eq]
  apply decide_eq_decide.2
  rw [show (2 : Nat) ^ 31 = 2147483648 from rfl]; omega
/-- What Sub32 borrows. -/
theorem borrow_bits (x y d b b' : Nat) (hx : x < 4294967296) (hy : y < 4294967296) (hd : d < 4294967296) (hb : b ≤ 1) (h : d + y + b = x + 4294967296 * b') :
    (((4294967295 - x) &&& y) ||| ((4294967295 - (x ^^^ y)) &&& d)) / 2147483648 = b' := by
  have hxy : x ^^^ y < 4294967296 := Nat.xor_lt_two_pow (n := 32) hx hy
  have n1 : ∀ z, z < 4294967296 → (4294967295 - z).testBit 31 = !(z.testBit 31) := by
    intro z hz
    rw [tb31' _ (by omega), tb31' z hz]
    by_cases h : 2147483648 ≤ z
    · rw [decide_eq_true h, decide_eq_false (by omega)]; rfl
    · rw [decide_eq_false h, decide_eq_true (by omega)]; rfl
  have hlt : (((4294967295 - x) &&& y) ||| ((4294967295 - (x ^^^ y)) &&& d)) < 4294967296 :=
    Nat.or_lt_two_pow (n := 32) (Nat.and_lt_two_pow _ hy) (Nat.and_lt_two_pow _ hd)
  rw [tb31 _ hlt, Nat.testBit_or, Nat.testBit_and, Nat.testBit_and, n1 x hx, n1 _ hxy, Nat.testBit_xor, tb31' x hx, tb31' y hy, tb31' d hd]
  by_cases h1 : 2147483648 ≤ x <;> by_cases h2 : 2147483648 ≤ y <;> by_cases h3 : 2147483648 ≤ d <;> simp [h1, h2, h3] <;> omega

theorem xor_all (x : Nat) (h : x < 4294967296) : 4294967295 ^^^ x = 4294967295 - x := by
  apply Nat.eq_of_testBit_eq
  intro i
  rw [Nat.testBit_xor, show 4294967295 - x = 2 ^ 32 - (x + 1) by omega, Nat.testBit_two_pow_sub_succ (show x < 2 ^ 32 from h), show (4294967295 : Nat) = 2 ^ 32 - 1 from rfl, Nat.testBit_two_pow_sub_one]
  by_cases hi : i < 32
  · simp [hi]
  · have : x.testBit i = false := Nat.testBit_lt_two_pow (Nat.lt_of_lt_of_le h (Nat.pow_le_pow_right (n := 2) (by decide) (show 32 ≤ i by omega)))
    simp [hi, this]
theorem not_u32 (x : Nat) (h : x < 4294967296) : bits .xor .u32 IntKind.u32.max (x : Int) = ((4294967295 - x : Nat) : Int) := by
  rw [show IntKind.u32.max = ((4294967295 : Nat) : Int) from rfl, u32_xor_nat _ _ (by omega) h, xor_all x h]

/-- d + y + b = x + 2^32 b'. -/
def Sub32Post (x y b : Nat) (w : World) (e : Ending) (w' : World) : Prop :=
  ∃ d b' : Nat, e = .returned (.tuple #[.int .u32 (d : Int), .int .u32 (b' : Int)]) ∧ w = w' ∧ d < R ∧ b' ≤ 1 ∧ d + y + b = x + R * b'

set_option maxHeartbeats 1000000 in
theorem Sub32_c (x y b : Nat) (w : World) (hx : x < R) (hy : y < R) (hb : b ≤ 1) :
    Calls Tryd.prog 86 #[.int .u32 (x : Int), .int .u32 (y : Int), .int .u32 (b : Int)] w (Sub32Post x y b w) := by
  unfold R at hx hy
  have hxx : (x : Int) ≤ 4294967295 := by omega
  have hyy : (y : Int) ≤ 4294967295 := by omega
  have hbb : (b : Int) ≤ 1 := by omega
  go_enter Tryd.func86, Tryd.ntmps86
  go_wp2
  go_ret2
  obtain ⟨d, hd⟩ : ∃ d : Nat, (d : Int) = ((x : Int) - y - b) % 4294967296 := ⟨(((x : Int) - y - b) % 4294967296).toNat, by omega⟩
  obtain ⟨b', hb'⟩ : ∃ b' : Nat, b' = if x < y + b then 1 else 0 := ⟨_, rfl⟩
  have hd4 : d < 4294967296 := by omega
  have he : d + y + b = x + 4294967296 * b' := by
    rw [hb']; split <;> omega
  refine ⟨d, b', ?_, rfl, hd4, by rw [hb']; split <;> omega, he⟩
  refine congrArg Ending.returned (congrArg Value.tuple ?_)
  show #[Value.int .u32 _, Value.int .u32 _] = _
  have hxy : x ^^^ y < 4294967296 := Nat.xor_lt_two_pow (n := 32) hx hy
  rw [← hd, u32_xor_nat x y hx hy, not_u32 x hx, not_u32 _ hxy, u32_and_nat _ _ (by omega) hy, u32_and_nat _ _ (by omega) hd4,
    u32_or_nat _ _ (Nat.and_lt_two_pow (n := 32) _ hy) (Nat.and_lt_two_pow (n := 32) _ hd4)]
  have hbr := borrow_bits x y d b b' hx hy hd4 hb he
  rw [← hbr]
  rfl

/-! ### take -/
def TakePost (g off n : Nat) (L Y : List Int) (w : World) (e : Ending) (w' : World) : Prop :=
  ∃ (b : Nat) (L' : List Int), e = .returned (.int .u32 (b : Int)) ∧ b ≤ 1 ∧ Blk w' g .u32 51 L' ∧ U32 L' ∧ L'.length = L.length ∧ (∀ j, j < off ∨ off + n ≤ j → nth L' j = nth L j) ∧
    val (sub L' off n) + val (Y.take n) = val (sub L off n) + R ^ n * b ∧ w.grownBy w' (some g)

set_option maxHeartbeats 1000000 in
theorem take_c (g off n cap : Nat) (L : List Int) (ay : Option Addr) (cy : Nat) (Y : List Int) (w : World) (hB : Blk w g .u32 51 L) (uL : U32 L) (hn : off + n ≤ L.length) (hcap : n ≤ cap)
    (hy : Sl .u32 w ay cy Y) (uY : U32 Y) (hap : ∀ b o, ay = some ⟨b, o, none⟩ → 0 < Y.length → b ≠ g) (hmax : L.length ≤ 4611686018427387904) :
    Calls Tryd.prog 56 #[.slice (some ⟨g, off, none⟩) n cap, .slice ay Y.length cy] w (TakePost g off n L Y w) := by
  have hym := Nat.le_trans hy.le hy.max
  go_enter Tryd.func56, Tryd.ntmps56
  go_wp2_with fail
  go_loopw [5, 10] (fun bv t wr => ∃ (i b : Nat) (L' : List Int), i ≤ n ∧ t = .int .i64 (i : Int) ∧ bv = .int .u32 (b : Int) ∧ b ≤ 1 ∧ Blk wr g .u32 51 L' ∧ U32 L' ∧ L'.length = L.length ∧
      (∀ j, j < off ∨ off + i ≤ j → nth L' j = nth L j) ∧ val (sub L' off i) + val (Y.take i) = val (sub L off i) + R ^ i * b ∧ w.grownBy wr (some g))
    (fun _ t _ => n - (intOf t).toNat)
  case atStart => exact ⟨0, 0, L, by omega, rfl, rfl, by omega, hB, uL, rfl, fun _ _ => rfl, by simp [sub, val], rfl, rfl, rfl, Nat.le_refl _, fun _ _ _ => rfl⟩
  case round =>
    obtain ⟨i, b, L', hi, rfl, rfl, hb1, hB', uL', hlen, hout, hval, hgr⟩ := hrel
    have HL := Lib.hid hlen
    have HO := Lib.hid hout
    have HV := Lib.hid hval
    clear hlen hout hval
    by_cases hlt : i < n
    · have hcl := hB'.cell (off + i) (by have := HL.out; omega)
      have hfr := hB'.free (off + i)
      have hx := uL' (off + i)
      have hxl := lb_lt uL' (off + i)
      have hxc := lb_cast uL' (off + i)
      have hyl := lb_lt uY i
      have hyc := lb_cast uY i
      have HYC := Lib.hid hyc
      have he : nth L' (off + i) = nth L (off + i) := HO.out _ (by omega)
      have HE := Lib.hid he
      rw [← hxc] at hcl
      have HXC := Lib.hid hxc
      clear he hxc hyc
      have fin : ∀ (d b' : Nat), d < R → b' ≤ 1 → d + lb Y i + b = lb L' (off + i) + R * b' →
          Blk (wr.setCell ⟨g, off + i, none⟩ (.int .u32 (d : Int))) g .u32 51 (L'.set (off + i) d) ∧ U32 (L'.set (off + i) (d : Int)) ∧ (L'.set (off + i) (d : Int)).length = L.length ∧
          (∀ j, j < off ∨ off + (i + 1) ≤ j → nth (L'.set (off + i) (d : Int)) j = nth L j) ∧
          val (sub (L'.set (off + i) (d : Int)) off (i + 1)) + val (Y.take (i + 1)) = val (sub L off (i + 1)) + R ^ (i + 1) * b' ∧ w.grownBy (wr.setCell ⟨g, off + i, none⟩ (.int .u32 (d : Int))) (some g) := by
        intro d b' hd hb' hdd
        have hil : off + i < L'.length := by have := HL.out; omega
        refine ⟨hB'.set _ _, uL'.set _ (by omega) (by unfold R at hd; omega), by simpa using HL.out, fun j hj => ?_, ?_, grownBy_trans hgr (grownBy_set _ _ _)⟩
        · rw [nth_set _ _ _ _ hil, if_neg (by omega)]
          exact HO.out j (by omega)
        · rw [val_sub_next, sub_set _ _ _ _ hil, val_take_next, val_sub_next L, Rpow_next]
          have e1 : lb (L'.set (off + i) (d : Int)) (off + i) = d := by rw [lb, nth_set _ _ _ _ hil, if_pos rfl]; rfl
          have e2 : lb L (off + i) = lb L' (off + i) := by rw [lb, lb, HE.out]
          rw [e1, e2]
          exact sub_step HV.out hdd
      have FIN := Lib.hid fin
      clear fin
      by_cases hin : i < Y.length
      · obtain ⟨by_, oy, rfl, hcc⟩ := hy.cells (by omega)
        have hne := hap by_ oy rfl (by omega)
        have hcy : wr.cell? ⟨by_, oy + i, none⟩ = some (.int .u32 ((lb Y i : Nat) : Int)) := by
          rw [HYC.out, World.cell?_of_block (w := w) (hgr.block by_ (World.block_lt_of_cell? w _ (hcc i hin)) (by simpa using hne))]
          exact hcc i hin
        clear hcc
        go_wp2_with fail
        refine (Sub32_c _ _ _ _ hxl hyl hb1).mono ?_; rintro e w' ⟨d, b', rfl, rfl, hd, hb', hdd⟩
        have F := Lib.hid (FIN.out d b' hd hb' hdd)
        clear hdd
        go_wp2_with fail
        go_roundw
        case rel =>
          obtain ⟨f1, f2, f3, f4, f5, f6⟩ := F.out
          exact ⟨i + 1, b', _, by omega, by go_num, rfl, hb', f1, f2, f3, f4, f5, f6⟩
        case measure => simp [intOf]; omega
      · have h0 : lb Y i = 0 := by rw [lb, nth_out _ _ (by omega)]; rfl
        have H0 := Lib.hid h0
        clear h0
        go_wp2_with fail
        have hs := Sub32_c (lb L' (off + i)) 0 b wr hxl (by decide) hb1
        refine hs.mono ?_; rintro e w' ⟨d, b', rfl, rfl, hd, hb', hdd⟩
        have F := Lib.hid (FIN.out d b' hd hb' (by rw [H0.out]; exact hdd))
        clear hdd hs
        go_wp2_with fail
        go_roundw
        case rel =>
          obtain ⟨f1, f2, f3, f4, f5, f6⟩ := F.out
          exact ⟨i + 1, b', _, by omega, by go_num, rfl, hb', f1, f2, f3, f4, f5, f6⟩
        case measure => simp [intOf]; omega
    · obtain rfl : i = n := by omega
      go_wp2_with fail
      go_ret
      exact ⟨b, L', rfl, hb1, hB', uL', HL.out, HO.out, HV.out, hgr⟩
end Go.Proofs.YtbmdifeanocahaaDoor
/- signetref6: limb, Proper, FromBytes, Cmp, Bits, Bit, by their contracts. -/
set_option linter.unusedVariables false
set_option linter.unusedSimpArgs false
namespace Go.Proofs.YtbmdifeanocahaaDoor
open Go.RowKit Go.Sg

theorem rlimb_c (a : Option Addr) (cap i : Nat) (zs : List Int) (w : World) (hc : Sl .u32 w a cap zs) (ux : U32 zs) (hi : i ≤ 9223372036854775807) :
    Calls Tryd.prog 76 #[.slice a zs.length cap, .int .i64 (i : Int)] w fun e w' => e = .returned (.int .u64 (nth zs i)) ∧ w = w' := by
  have hm := hc.max
  have hl := hc.le
  by_cases h : zs.length ≤ i
  · have h0 := Lib.hid (nth_out zs i h)
    go_enter Tryd.func76, Tryd.ntmps76
    go_wp2
    go_ret
    exact ⟨by rw [h0.out]; rfl, rfl⟩
  · obtain ⟨b, off, rfl, hcc⟩ := hc.cells (by omega)
    have hcell := hcc i (by omega)
    have hb := ux i
    have hlt : i < zs.length := by omega
    clear hcc
    go_enter Tryd.func76, Tryd.ntmps76
    go_wp2
    go_ret
    exact ⟨rfl, rfl⟩

/-- New memory that reads as these numbers. -/
def RowPost (k : IntKind) (E : TypeId) (xs : List Int) (w : World) (e : Ending) (w' : World) : Prop := ∃ v, e = .returned v ∧ New w.heap.size k E w' v xs ∧ Below w.heap.size w w'

set_option maxHeartbeats 1000000 in
theorem rProper_c (a : Option Addr) (cap : Nat) (zs : List Int) (w : World) (hc : Sl .u32 w a cap zs) (hlen : zs.length ≤ 35184372088832) :
    Calls Tryd.prog 75 #[.slice a zs.length cap] w (RowPost .u32 51 (norm zs) w) := by
  have hm := hc.max
  go_enter Tryd.func75, Tryd.ntmps75
  go_wp2_with fail
  go_loop [3] (fun t => ∃ k : Nat, k ≤ zs.length ∧ t = .int .i64 (k : Int) ∧ topz zs = topz (zs.take k))
    (fun t => (intOf t).toNat)
  case atStart => exact ⟨zs.length, Nat.le_refl _, rfl, by simp⟩
  case round =>
    obtain ⟨k, hk, rfl, hz⟩ := hrel
    have HZ := Lib.hid hz; clear hz
    by_cases h0 : 0 < k ∧ nth zs (k - 1) = 0
    · obtain ⟨h0, h1⟩ := h0
      obtain ⟨b, off, rfl, hcc⟩ := hc.cells (by omega)
      have hcell := hcc (k - 1) (by omega)
      rw [h1] at hcell
      have H1 := Lib.hid h1
      have hx : 0 < (k : Int) := by omega
      have hx1 : (1 : Int) ≤ (k : Int) := by omega
      clear hcc h1
      go_wp2_with fail
      go_round
      case rel => exact ⟨k - 1, by omega, by go_num, by rw [HZ.out]; exact topz_down _ _ h0 hk H1.out⟩
      case measure => simp [intOf]; omega
    · have hk2 : k = topz zs := by
        rw [HZ.out]
        by_cases hp : 0 < k
        · exact (topz_stop _ _ hp hk (fun h => h0 ⟨hp, h⟩)).symm
        · obtain rfl : k = 0 := by omega
          rfl
      have HK := Lib.hid hk2
      have hcell : 0 < k → ∃ b off, a = some ⟨b, off, none⟩ ∧ w.cell? ⟨b, off + (k - 1), none⟩ = some (.int .u32 (nth zs (k - 1))) ∧ (nth zs (k - 1) == 0) = false := by
        intro hp
        obtain ⟨b, off, ha, hcc⟩ := hc.cells (by omega)
        exact ⟨b, off, ha, hcc _ (by omega), beq_false_of_ne fun h => h0 ⟨hp, h⟩⟩
      have hxx : 0 < k → (0 < (k : Int)) ∧ (1 : Int) ≤ (k : Int) := fun h => by omega
      clear hk2 h0
      rcases Nat.eq_zero_or_pos k with hp | hp
      · subst hp
        go_wp2_with fail
        go_loopw [4, 5] (fun v t wr => ∃ j : Nat, j ≤ 0 ∧ t = .int .i64 (j : Int) ∧ New w.heap.size .u32 51 wr v (zs.take j) ∧ Below w.heap.size w wr)
          (fun _ t _ => 0 - (intOf t).toNat)
        case atStart => exact ⟨0, by omega, rfl, .nil _ _ _ _, .refl _ _⟩
        case round =>
          obtain ⟨j, hj, rfl, hv, hb⟩ := hrel
          obtain rfl : j = 0 := by omega
          go_wp2_with fail
          go_ret
          exact ⟨_, rfl, by rw [norm, ← HK.out]; exact hv, hb⟩
      · obtain ⟨b, off, rfl, hcc, hne⟩ := hcell hp
        obtain ⟨hx, hx1⟩ := hxx hp
        go_wp2_with fail
        go_loopw [4, 5] (fun v t wr => ∃ j : Nat, j ≤ k ∧ t = .int .i64 (j : Int) ∧ New w.heap.size .u32 51 wr v (zs.take j) ∧ Below w.heap.size w wr)
          (fun _ t _ => k - (intOf t).toNat)
        case atStart => exact ⟨0, by omega, rfl, .nil _ _ _ _, .refl _ _⟩
        case round =>
          obtain ⟨j, hj, rfl, hv, hb⟩ := hrel
          by_cases hlt : j < k
          · obtain ⟨b1, off1, ha1, hcc1⟩ := hc.cells (by omega)
            simp only [Option.some.injEq, Addr.mk.injEq, and_true] at ha1
            obtain ⟨rfl, rfl⟩ := ha1
            have hcw := (hb.cell (World.block_lt_of_cell? w _ (hcc1 j (by omega)))).trans (hcc1 j (by omega))
            have hjl : (zs.take j).length = j := by simp; omega
            have HJ := Lib.hid hjl
            have hbs := hb.size
            clear hcc1 hjl
            go_wp2_with (at_builtin; refine wpList_append_new _ rfl _ _ 38 rfl w.heap.size 51 .u32 4 Tryd.underlying38 info32 _ _ rfl (hv.alloc _) _ _ 1 [nth zs j] rfl rfl (cells_one _ _ _ _ _ rfl) (by rw [HJ.out]; simp; omega) (by rw [HJ.out]; simp; omega) (by simp; omega) ?_)
            intro v' w' hv' hg _
            have hb' : Below w.heap.size w w' := (hb.alloc (by omega) _).grown hg (by simp; omega) fun g hg => (hv.lt g hg).1
            rw [← take_succ_nth _ _ (by omega)] at hv'
            clear hg hv hb hbs
            go_wp2_with fail
            go_roundw
            case rel => exact ⟨j + 1, by omega, by go_num, hv', hb'⟩
            case measure => simp [intOf]; omega
          · obtain rfl : j = k := by omega
            go_wp2_with fail
            go_ret
            exact ⟨_, rfl, by rw [norm, ← HK.out]; exact hv, hb⟩
end Go.Proofs.YtbmdifeanocahaaDoor
/- signetref6: FromBytes, Cmp, Bits, Bit, by their contracts. -/
set_option linter.unusedVariables false
set_option linter.unusedSimpArgs false
namespace Go.Proofs.YtbmdifeanocahaaDoor
open Go.RowKit Go.Sg

/-- Bytes i - 4 .. i - 4 + t, those that there are. -/
def seg (bs : List Int) (i t : Nat) : List Int := (bs.take (i + t - 4)).drop (i - 4)
theorem seg_zero (bs : List Int) (i : Nat) : seg bs i 0 = [] := by
  apply List.eq_nil_of_length_eq_zero; simp [seg]
theorem seg_skip (bs : List Int) (i t : Nat) (h : i + t < 4) : seg bs i (t + 1) = seg bs i t := by
  unfold seg; rw [show i + (t + 1) - 4 = i + t - 4 by omega]
theorem seg_snoc (bs : List Int) (i t : Nat) (h : 4 ≤ i + t) (hl : i + t - 4 < bs.length) : seg bs i (t + 1) = seg bs i t ++ [nth bs (i + t - 4)] := by
  unfold seg
  rw [show i + (t + 1) - 4 = (i + t - 4) + 1 by omega, take_succ_nth _ _ hl, List.drop_append_of_le_length (by simp; omega)]
theorem seg_len (bs : List Int) (i t : Nat) (h : t ≤ 4) : (seg bs i t).length ≤ t := by simp [seg]; omega
theorem seg_full (bs : List Int) (i : Nat) : seg bs i 4 = (bs.take i).drop (i - 4) := by unfold seg; rw [show i + 4 - 4 = i by omega]
theorem bval_drop (bs : List Int) (i : Nat) (hi : i ≤ bs.length) : bval (bs.drop (i - 4)) = bval (seg bs i 4) * 256 ^ (bs.length - i) + bval (bs.drop i) := by
  have e : bs.drop (i - 4) = seg bs i 4 ++ bs.drop i := by
    rw [seg_full]
    conv => lhs; rw [← List.take_append_drop i bs]
    rw [List.drop_append_of_le_length (by simp; omega)]
  rw [e, bval_append, List.length_drop]
theorem bval_seg_lt {bs : List Int} (ub : U8 bs) (i t : Nat) (h : t ≤ 4) : bval (seg bs i t) < 256 ^ t := by
  have h1 : U8 (seg bs i t) := (ub.take (by omega) _).drop (by omega) _
  exact Nat.lt_of_lt_of_le (bval_lt h1) (Nat.pow_le_pow_right (by decide) (seg_len bs i t h))

set_option maxHeartbeats 2000000 in
theorem rFromBytes_c (a : Option Addr) (cap : Nat) (bs : List Int) (w : World) (hc : Sl .u8 w a cap bs) (ub : U8 bs) (hlen : bs.length ≤ 140737488355328) :
    Calls Tryd.prog 45 #[.slice a bs.length cap] w (NatPost (bval bs) w) := by
  have hm := hc.max
  go_enter Tryd.func45, Tryd.ntmps45
  go_wp2_with fail
  go_loopw [3, 4] (fun v t wr => ∃ (k : Nat) (i : Int), t = .int .i64 i ∧ i = (bs.length : Int) - 4 * k ∧ -4 < i ∧ ∃ zs, New w.heap.size .u32 51 wr v zs ∧ zs.length = k ∧ U32 zs ∧ val zs = bval (bs.drop i.toNat) ∧ Below w.heap.size w wr)
    (fun _ t _ => (intOf t).toNat)
  case atStart => exact ⟨0, bs.length, rfl, by omega, by omega, [], .nil _ _ _ _, rfl, .nil (by omega), by simp [val, bval], .refl _ _⟩
  case round =>
    obtain ⟨k, i, rfl, hi, hi4, zs, hv, hk, uz, hval, hb⟩ := hrel
    have HI := Lib.hid hi
    have HK := Lib.hid hk
    have HV := Lib.hid hval
    clear hi hk hval
    by_cases hp : 0 < i
    · obtain ⟨n, rfl⟩ := Int.eq_ofNat_of_zero_le (show 0 ≤ i by omega)
      have hp1 : (1 : Int) ≤ (n : Int) := by omega
      have hn : n ≤ bs.length := by have := HI.out; omega
      have hbs := hb.size
      clear hi4
      obtain ⟨wo, rfl⟩ : ∃ wo : World, wo = wr := ⟨_, rfl⟩
      go_wp2_with fail
      go_loop [5, 6] (fun u j => ∃ t : Nat, t ≤ 4 ∧ j = .int .i64 ((n : Int) - 4 + t) ∧ u = .int .u32 ((bval (seg bs n t) : Nat) : Int))
        (fun _ j => ((n : Int) - intOf j).toNat)
      case atStart => exact ⟨0, by omega, by go_num, by rw [seg_zero]; rfl⟩
      case round =>
        obtain ⟨t, ht, rfl, rfl⟩ := hrel
        by_cases ht4 : t < 4
        · have hsl := bval_seg_lt ub n t (by omega)
          have hsl3 : (256 : Nat) ^ t ≤ 256 ^ 3 := Nat.pow_le_pow_right (by decide) (by omega)
          have hsl2 : bval (seg bs n t) < 16777216 := Nat.lt_of_lt_of_le hsl hsl3
          have hlt : (n : Int) - 4 + t < n := by omega
          clear hsl hsl3
          by_cases hg : 4 ≤ n + t
          · obtain ⟨b, off, rfl, hcc⟩ := hc.cells (by omega)
            have hcw := (hb.cell (World.block_lt_of_cell? w _ (hcc (n + t - 4) (by omega)))).trans (hcc (n + t - 4) (by omega))
            have ej : ((n : Int) - 4 + t) = ((n + t - 4 : Nat) : Int) := by omega
            have hby := ub (n + t - 4)
            have hge : (0 : Int) ≤ ((n + t - 4 : Nat) : Int) := by omega
            have hlt2 : n + t - 4 < bs.length := by omega
            have e5 := seg_snoc bs n t hg hlt2
            have E5 := Lib.hid e5
            clear e5 hcc
            obtain ⟨q, hq⟩ : ∃ q, q = n + t - 4 := ⟨_, rfl⟩
            have Hq := Lib.hid hq
            rw [← hq] at hcw ej hby hge hlt2
            rw [ej]
            have EJ := Lib.hid ej
            have hqn : (q : Int) < n := by omega
            clear ej hlt hq
            go_wp2_with fail
            go_round
            case rel => exact ⟨t + 1, by omega, by have := EJ.out; go_num, by rw [E5.out, bval_snoc, ← Hq.out]; refine congrArg (Value.int IntKind.u32) ?_; omega⟩
            case measure => simp [intOf]; omega
          · have hge : ¬ 0 ≤ (n : Int) - 4 + t := by omega
            have e5 := Lib.hid (seg_skip bs n t (by omega))
            have e0 : bval (seg bs n t) = 0 := by
              have : seg bs n t = [] := by apply List.eq_nil_of_length_eq_zero; simp [seg]; omega
              rw [this]; rfl
            have E0 := Lib.hid e0
            rw [e0]
            clear e0
            go_wp2_with fail
            go_round
            case rel => exact ⟨t + 1, by omega, by go_num, by rw [e5.out, E0.out]; rfl⟩
            case measure => simp [intOf]; omega
        · obtain rfl : t = 4 := by omega
          have hsl := bval_seg_lt ub n 4 (by omega)
          rw [show (256 : Nat) ^ 4 = 4294967296 from rfl] at hsl
          have hge : ¬ ((n : Int) - 4 + (4 : Nat) < n) := by omega
          go_wp2_with (at_builtin; refine wpList_append_new _ rfl _ _ 38 rfl w.heap.size 51 .u32 4 Tryd.underlying38 info32 _ _ rfl (hv.alloc _) _ _ 1 [((bval (seg bs n 4) : Nat) : Int)] rfl rfl (cells_one _ _ _ _ _ rfl) (by have := HK.out; have := HI.out; simp; omega) (by have := HK.out; have := HI.out; simp; omega) (by simp; omega) ?_)
          intro v' w' hv' hg _
          have hb' : Below w.heap.size w w' := (hb.alloc (by omega) _).grown hg (by simp; omega) fun g hg => (hv.lt g hg).1
          have hzl : zs.length = k := HK.out
          have hnk : (n : Int) = (bs.length : Int) - 4 * k := HI.out
          have hval' : val (zs ++ [((bval (seg bs n 4) : Nat) : Int)]) = bval (bs.drop (n - 4)) := by
            rw [val_snoc, HV.out, bval_drop bs n hn, Int.toNat_natCast, Int.toNat_natCast, hzl, R_pow_256, show bs.length - n = 4 * k by omega, Nat.mul_comm]
            omega
          have HV' := Lib.hid hval'
          have HN := Lib.hid hnk
          have HZ := Lib.hid hzl
          clear hg hv hb hbs hval' hnk hzl
          go_wp2_with fail
          go_roundw
          case rel => exact ⟨k + 1, (n : Int) - 4, rfl, by have := HN.out; omega, by omega, _, hv', by have := HZ.out; simp; omega, uz.append (by omega) (.one (by omega) (by omega)), by rw [HV'.out]; congr 2; omega, hb'⟩
          case measure => simp [intOf]; omega
    · have h0 : i.toNat = 0 := by omega
      have hz : val zs = bval bs := by rw [HV.out, h0, List.drop_zero]
      have hkl : zs.length ≤ 35184372088832 := by have := HK.out; have := HI.out; omega
      have HZ := Lib.hid hz
      have hbs := hb.size
      obtain ⟨a1, c1, rfl, hs⟩ := hv.sl
      clear hz
      go_wp2_with fail
      refine (rProper_c _ _ _ _ hs hkl).mono ?_; rintro e w1 ⟨v1, rfl, hn1, hb1⟩
      go_wp2_with fail
      go_ret
      exact ⟨_, rfl, ⟨norm zs, hn1.mono hbs, .norm _, uz.norm, by rw [val_norm, HZ.out]⟩, hb.trans (hb1.mono hbs)⟩

/-! ### Cmp -/
theorem val_pad (xs : List Int) (m : Nat) : val (xs ++ List.replicate m 0) = val xs := by rw [val_append, val_zeros]; omega
theorem nth_pad (xs : List Int) (m i : Nat) : nth (xs ++ List.replicate m 0) i = nth xs i := by
  by_cases h : i < xs.length
  · exact nth_append_left _ _ _ h
  · obtain ⟨j, rfl⟩ : ∃ j, i = xs.length + j := ⟨i - xs.length, by omega⟩
    rw [nth_append_right, nth_replicate0, nth_out _ _ (by omega)]
theorem u32_pad {xs : List Int} (h : U32 xs) (m : Nat) : U32 (xs ++ List.replicate m 0) := fun i => by rw [nth_pad]; exact h i
/-- The same limbs from k on, whatever the lengths. -/
def Above (xs ys : List Int) (k : Nat) : Prop := ∀ j, k ≤ j → nth xs j = nth ys j
theorem Above.start (xs ys : List Int) (n : Nat) (h1 : xs.length ≤ n) (h2 : ys.length ≤ n) : Above xs ys n := fun j hj => by rw [nth_out _ _ (by omega), nth_out _ _ (by omega)]
theorem Above.step {xs ys : List Int} {k : Nat} (h : Above xs ys (k + 1)) (e : nth xs k = nth ys k) : Above xs ys k := fun j hj => by
  by_cases hk : j = k
  · rw [hk]; exact e
  · exact h j (by omega)
theorem Above.eq {xs ys : List Int} (ux : U32 xs) (uy : U32 ys) (h : Above xs ys 0) : val xs = val ys := by
  rw [← val_pad xs ys.length, ← val_pad ys xs.length]
  congr 1
  apply ext_nth
  · simp; omega
  · intro i _
    rw [nth_pad, nth_pad]
    exact h i (by omega)
theorem Above.lt {xs ys : List Int} (ux : U32 xs) {k : Nat} (h : Above xs ys (k + 1)) (hlt : nth xs k < nth ys k) : val xs < val ys := by
  rw [← val_pad xs (ys.length + k + 1), ← val_pad ys (xs.length + k + 1)]
  apply top_lt (u32_pad ux _) k (by simp; omega) (by simp; omega)
  · apply ext_nth
    · simp; omega
    · intro i _
      rw [nth_drop, nth_drop, nth_pad, nth_pad]
      exact h _ (by omega)
  · rw [nth_pad, nth_pad]; exact hlt

def RCmpPost (r : Int) (w : World) (e : Ending) (w' : World) : Prop := e = .returned (.int .i64 r) ∧ w = w'

set_option maxHeartbeats 1000000 in
theorem rCmp_c (a a' : Option Addr) (cap cap' : Nat) (xs ys : List Int) (w : World) (hx : Sl .u32 w a cap xs) (hy : Sl .u32 w a' cap' ys) (ux : U32 xs) (uy : U32 ys) :
    Calls Tryd.prog 46 #[.slice a xs.length cap, .slice a' ys.length cap'] w (RCmpPost (cmpI (val xs) (val ys)) w) := by
  have h1 := Nat.le_trans hx.le hx.max
  have h2 := Nat.le_trans hy.le hy.max
  suffices H : ∀ n : Nat, n ≤ 9223372036854775807 → xs.length ≤ n → ys.length ≤ n → n = max xs.length ys.length →
      Calls Tryd.prog 46 #[.slice a xs.length cap, .slice a' ys.length cap'] w (RCmpPost (cmpI (val xs) (val ys)) w) from
    H (max xs.length ys.length) (by omega) (by omega) (by omega) rfl
  intro n hn g1 g2 hmax
  have HM := Lib.hid hmax
  by_cases hc : xs.length < ys.length
  · have hyn : ys.length = n := by omega
    have HY := Lib.hid hyn
    clear hmax hyn
    go_enter Tryd.func46, Tryd.ntmps46
    go_wp2_with fail
    go_loop [6, 7, 8] (fun t _ _ => ∃ k : Nat, k ≤ n ∧ t = .int .i64 ((k : Int) - 1) ∧ Above xs ys k)
      (fun t _ _ => (intOf t + 1).toNat)
    case atStart => exact ⟨n, by omega, by have := HY.out; go_num, .start _ _ _ g1 g2⟩
    case round =>
      obtain ⟨k, hk, rfl, hab⟩ := hrel
      have HA := Lib.hid hab
      clear hab
      by_cases h0 : 0 < k
      · obtain ⟨j, rfl⟩ : ∃ j, k = j + 1 := ⟨k - 1, by omega⟩
        have hj3 : (((j + 1 : Nat) : Int) - 1) = (j : Int) := by omega
        rw [hj3]
        have HJ := Lib.hid hj3
        have hj0 : (0 : Int) ≤ (j : Int) := by omega
        have hjm : (j : Int) ≤ 9223372036854775807 := by omega
        clear hj3 h0
        go_wp2_with fail
        refine (rlimb_c a cap j xs _ hx ux (by omega)).mono ?_; rintro e w' ⟨rfl, rfl⟩
        go_wp2_with fail
        refine (rlimb_c a' cap' j ys _ hy uy (by omega)).mono ?_; rintro e w' ⟨rfl, rfl⟩
        rcases Int.lt_trichotomy (nth xs j) (nth ys j) with h | h | h
        · go_wp2_with fail
          go_ret
          exact ⟨by rw [cmpI_lt (Above.lt ux HA.out h)]; rfl, rfl⟩
        · have g3 : ¬ nth xs j < nth ys j := by omega
          have g4 : ¬ nth ys j < nth xs j := by omega
          have HE := Lib.hid h
          clear h
          go_wp2_with fail
          go_round
          case rel => exact ⟨j, by omega, by go_num, HA.out.step HE.out⟩
          case measure => simp [intOf]
        · have g3 : ¬ nth xs j < nth ys j := by omega
          go_wp2_with fail
          go_ret
          refine ⟨?_, rfl⟩
          rw [cmpI_gt (Above.lt uy (fun i hi => (HA.out i hi).symm) h)]; rfl
      · obtain rfl : k = 0 := by omega
        clear h0 hk
        rw [show (((0 : Nat) : Int) - 1) = -1 from rfl]
        go_wp2_with fail
        go_ret
        exact ⟨by rw [cmpI_eq (HA.out.eq ux uy)]; rfl, rfl⟩
  · have hxn : xs.length = n := by omega
    have HY := Lib.hid hxn
    clear hmax hxn
    go_enter Tryd.func46, Tryd.ntmps46
    go_wp2_with fail
    go_loop [6, 7, 8] (fun t _ _ => ∃ k : Nat, k ≤ n ∧ t = .int .i64 ((k : Int) - 1) ∧ Above xs ys k)
      (fun t _ _ => (intOf t + 1).toNat)
    case atStart => exact ⟨n, by omega, by have := HY.out; go_num, .start _ _ _ g1 g2⟩
    case round =>
      obtain ⟨k, hk, rfl, hab⟩ := hrel
      have HA := Lib.hid hab
      clear hab
      by_cases h0 : 0 < k
      · obtain ⟨j, rfl⟩ : ∃ j, k = j + 1 := ⟨k - 1, by omega⟩
        have hj3 : (((j + 1 : Nat) : Int) - 1) = (j : Int) := by omega
        rw [hj3]
        have HJ := Lib.hid hj3
        have hj0 : (0 : Int) ≤ (j : Int) := by omega
        have hjm : (j : Int) ≤ 9223372036854775807 := by omega
        clear hj3 h0
        go_wp2_with fail
        refine (rlimb_c a cap j xs _ hx ux (by omega)).mono ?_; rintro e w' ⟨rfl, rfl⟩
        go_wp2_with fail
        refine (rlimb_c a' cap' j ys _ hy uy (by omega)).mono ?_; rintro e w' ⟨rfl, rfl⟩
        rcases Int.lt_trichotomy (nth xs j) (nth ys j) with h | h | h
        · go_wp2_with fail
          go_ret
          exact ⟨by rw [cmpI_lt (Above.lt ux HA.out h)]; rfl, rfl⟩
        · have g3 : ¬ nth xs j < nth ys j := by omega
          have g4 : ¬ nth ys j < nth xs j := by omega
          have HE := Lib.hid h
          clear h
          go_wp2_with fail
          go_round
          case rel => exact ⟨j, by omega, by go_num, HA.out.step HE.out⟩
          case measure => simp [intOf]
        · have g3 : ¬ nth xs j < nth ys j := by omega
          go_wp2_with fail
          go_ret
          refine ⟨?_, rfl⟩
          rw [cmpI_gt (Above.lt uy (fun i hi => (HA.out i hi).symm) h)]; rfl
      · obtain rfl : k = 0 := by omega
        clear h0 hk
        rw [show (((0 : Nat) : Int) - 1) = -1 from rfl]
        go_wp2_with fail
        go_ret
        exact ⟨by rw [cmpI_eq (HA.out.eq ux uy)]; rfl, rfl⟩

/-! ### Bits -/
theorem bl_half (x : Nat) (h : x ≠ 0) : bl x = 1 + bl (x / 2) := by
  by_cases h1 : x / 2 = 0
  · obtain rfl : x = 1 := by omega
    decide
  · have e := bl_add_low (x / 2) 1 (x % 2) h1 (by omega)
    rw [show x % 2 + 2 ^ 1 * (x / 2) = x by omega] at e
    omega
def IntPost (n : Int) (w : World) (e : Ending) (w' : World) : Prop := e = .returned (.int .i64 n) ∧ Below w.heap.size w w'

set_option maxHeartbeats 1000000 in
theorem rBits_c (a : Option Addr) (cap : Nat) (zs : List Int) (w : World) (hc : Sl .u32 w a cap zs) (ux : U32 zs) (hlen : zs.length ≤ 35184372088832) :
    Calls Tryd.prog 73 #[.slice a zs.length cap] w (IntPost (bl (val zs)) w) := by
  go_enter Tryd.func73, Tryd.ntmps73
  go_wp2_with fail
  refine (rProper_c _ _ _ _ hc hlen).mono ?_; rintro e w1 ⟨v1, rfl, hn1, hb1⟩
  obtain ⟨a1, c1, rfl, hs⟩ := hn1.sl
  have ex := Lib.hid (val_norm zs).symm
  have cx := Canon.norm zs
  have vx := ux.norm
  have hl : (norm zs).length ≤ 35184372088832 := by rw [length_norm]; have := topz_le zs; omega
  clear ux
  generalize norm zs = x at *
  by_cases h0 : x.length = 0
  · obtain rfl : x = [] := List.eq_nil_of_length_eq_zero h0
    go_wp2_with fail
    go_ret
    exact ⟨by rw [ex.out]; rfl, hb1⟩
  · obtain ⟨b, off, rfl, hcc⟩ := hs.cells (by omega)
    have hcell := hcc (x.length - 1) (by omega)
    have hbx := vx (x.length - 1)
    have hp : 0 < (x.length : Int) := by omega
    have h2 : ((x.length : Int) == 0) = false := beq_false_of_ne (by omega)
    have ev := Lib.hid (bl_val vx cx (by omega))
    have hlb := Lib.hid (show nth x (x.length - 1) = ((lb x (x.length - 1) : Nat) : Int) from (lb_cast vx _).symm)
    have hbl := Lib.hid (show bl (lb x (x.length - 1)) ≤ 32 from bl_u32 _ hbx.1 hbx.2)
    have hpos := Lib.hid (show 0 < x.length by omega)
    clear hcc h0
    go_wp2_with fail
    go_loop [4, 5] (fun o t => ∃ (k m : Nat), t = .int .u32 (m : Int) ∧ m ≤ 4294967295 ∧ o = .int .i64 (32 * ((x.length : Int) - 1) + (k : Int)) ∧ k + bl m = bl (lb x (x.length - 1)))
      (fun _ t => (intOf t).toNat)
    case atStart => exact ⟨0, lb x (x.length - 1), by rw [hlb.out], by have := lb_lt vx (x.length - 1); unfold R at this; omega, by go_num, by omega⟩
    case round =>
      obtain ⟨k, m, rfl, hm, rfl, hk⟩ := hrel
      have HK := Lib.hid hk
      have hk32 : k ≤ 32 := by have := HK.out; have := hbl.out; omega
      clear hk
      by_cases hm0 : 0 < m
      · have hm1 : 0 < (m : Int) := by omega
        go_wp2_with fail
        go_round
        case rel => exact ⟨k + 1, m / 2, by go_num, by omega, by go_num, by have := HK.out; rw [bl_half m (by omega)] at this; omega⟩
        case measure => simp [intOf]; omega
      · obtain rfl : m = 0 := by omega
        go_wp2_with fail
        go_ret
        refine ⟨?_, hb1⟩
        have hk := HK.out
        rw [bl_zero] at hk
        have hpp := hpos.out
        rw [ex.out, ev.out]
        exact congrArg Ending.returned (congrArg (Value.int .i64) (by show 32 * ((x.length : Int) - 1) + (k : Int) = _; omega))

/-! ### Bit -/
/-- A bit of a number. -/
def bitB (n : Nat) (i : Int) : Bool := decide (0 ≤ i ∧ n / 2 ^ i.toNat % 2 = 1)
theorem bit_limb {zs : List Int} (uz : U32 zs) (i : Nat) : val zs / 2 ^ i % 2 = lb zs (i / 32) / 2 ^ (i % 32) % 2 := by
  by_cases h : i / 32 < zs.length
  · have e1 := val_split zs (i / 32) (by omega)
    have e2 := val_drop zs (i / 32) h
    have h1 := val_take_lt uz (i / 32) (by omega)
    have h3 : 2 ^ i = R ^ (i / 32) * 2 ^ (i % 32) := by rw [Rpow_two, ← Nat.pow_add]; congr 1; omega
    rw [e2] at e1
    rw [h3, ← Nat.div_div_eq_div_mul, e1, Nat.add_mul_div_left _ _ (Rpow_pos _), Nat.div_eq_of_lt h1, Nat.zero_add]
    have h4 : R = 2 ^ (i % 32) * (2 * 2 ^ (31 - i % 32)) := by
      rw [← Nat.pow_succ', ← Nat.pow_add, show i % 32 + (31 - i % 32 + 1) = 32 by omega]; rfl
    rw [h4, Nat.mul_assoc, Nat.add_mul_div_left _ _ (Nat.two_pow_pos _), Nat.mul_assoc, Nat.add_mul_mod_self_left]
  · rw [lb, nth_out _ _ (by omega)]
    have h1 := val_lt uz
    have h2 : R ^ zs.length ≤ 2 ^ i := by rw [Rpow_two]; exact Nat.pow_le_pow_right (by decide) (by omega)
    rw [Nat.div_eq_of_lt (by omega)]
    simp
end Go.Proofs.YtbmdifeanocahaaDoor
/- signetref6.Bit, nat.Bit, by their contracts. -/
set_option linter.unusedVariables false
set_option linter.unusedSimpArgs false
namespace Go.Proofs.YtbmdifeanocahaaDoor
open Go.RowKit Go.Sg


theorem bitB_neg (n : Nat) (i : Int) (h : i < 0) : bitB n i = false := decide_eq_false fun hh => by omega
theorem bitB_nat (zs : List Int) (uz : U32 zs) (i : Nat) : bitB (val zs) (i : Int) = decide (lb zs (i / 32) / 2 ^ (i % 32) % 2 = 1) := by
  unfold bitB
  rw [Int.toNat_natCast, bit_limb uz]
  exact decide_eq_decide.2 ⟨fun h => h.2, fun h => ⟨by omega, h⟩⟩
theorem bitB_out (zs : List Int) (uz : U32 zs) (i : Nat) (h : zs.length ≤ i / 32) : bitB (val zs) (i : Int) = false := by
  rw [bitB_nat _ uz, lb, nth_out _ _ h]; simp

set_option maxHeartbeats 1000000 in
theorem rBit_c (a : Option Addr) (cap : Nat) (zs : List Int) (i : Int) (w : World) (hc : Sl .u32 w a cap zs) (ux : U32 zs) (hi : -9223372036854775808 ≤ i ∧ i ≤ 9223372036854775807) :
    Calls Tryd.prog 74 #[.slice a zs.length cap, .int .i64 i] w (BoolPost (bitB (val zs) i) w) := by
  have hm := hc.max
  obtain ⟨i1, i2⟩ := hi
  by_cases hneg : i < 0
  · have hb := Lib.hid (bitB_neg (val zs) i hneg)
    go_enter Tryd.func74, Tryd.ntmps74
    go_wp2
    go_ret
    exact ⟨by rw [hb.out]; rfl, .refl _⟩
  · obtain ⟨n, rfl⟩ := Int.eq_ofNat_of_zero_le (show 0 ≤ i by omega)
    have hq : (n : Int) / 32 = ((n / 32 : Nat) : Int) := by omega
    have HQ := Lib.hid hq
    clear hq
    by_cases hlen : zs.length ≤ n / 32
    · have hb := Lib.hid (bitB_out zs ux n hlen)
      have h3 : (zs.length : Int) ≤ (n : Int) / 32 := by omega
      go_enter Tryd.func74, Tryd.ntmps74
      go_wp2
      go_ret
      exact ⟨by rw [hb.out]; rfl, .refl _⟩
    · have hb := Lib.hid (bitB_nat zs ux n)
      have h3 : ¬ (zs.length : Int) ≤ (n : Int) / 32 := by omega
      obtain ⟨b, off, rfl, hcc⟩ := hc.cells (by omega)
      have hcell := hcc (n / 32) (by omega)
      have hbx := ux (n / 32)
      have hlt : n / 32 < zs.length := by omega
      have hlb := Lib.hid (show nth zs (n / 32) = ((lb zs (n / 32) : Nat) : Int) from (lb_cast ux _).symm)
      have hlr := Lib.hid (lb_lt ux (n / 32))
      clear hcc
      go_enter Tryd.func74, Tryd.ntmps74
      go_wp2_with fail
      go_loop [5, 6] (fun u t => ∃ (k m : Nat), k ≤ n % 32 ∧ t = .int .i64 (k : Int) ∧ u = .int .u32 (m : Int) ∧ m ≤ 4294967295 ∧ m = lb zs (n / 32) / 2 ^ k)
        (fun _ t => n % 32 - (intOf t).toNat)
      case atStart => exact ⟨0, lb zs (n / 32), by omega, rfl, by rw [hlb.out], by have := hlr.out; unfold R at this; omega, by simp⟩
      case round =>
        obtain ⟨k, m, hk, rfl, rfl, hm2, hmk⟩ := hrel
        have HM := Lib.hid hmk
        clear hmk
        have hmod : (n : Int) % 32 = ((n % 32 : Nat) : Int) := by omega
        by_cases hlt : k < n % 32
        · have g : (k : Int) < (n : Int) % 32 := by omega
          clear hmod
          go_wp2_with fail
          go_round
          case rel => exact ⟨k + 1, m / 2, by omega, by go_num, by go_num, by omega, by rw [HM.out, Nat.div_div_eq_div_mul, Nat.pow_succ]⟩
          case measure => simp [intOf]; omega
        · have g : ¬ (k : Int) < (n : Int) % 32 := by omega
          have hk2 := Lib.hid (show k = n % 32 by omega)
          clear hmod
          go_wp2_with fail
          go_ret
          refine ⟨?_, .refl _⟩
          rw [hb.out, ← hk2.out, ← HM.out]
          refine congrArg Ending.returned (congrArg Value.bool ?_)
          show ((m : Int) % 2 == 1) = decide (m % 2 = 1)
          rw [Bool.eq_iff_iff]
          simp
          omega

set_option maxHeartbeats 1000000 in
theorem Bit_c (a : Option Addr) (cap : Nat) (zs : List Int) (i : Int) (w : World) (hc : Sl .u32 w a cap zs) (ux : U32 zs) (hi : -9223372036854775808 ≤ i ∧ i ≤ 9223372036854775807) :
    Calls Tryd.prog 53 #[.slice a zs.length cap, .int .i64 i] w (BoolPost (bitB (val zs) i) w) := by
  have hm := hc.max
  obtain ⟨i1, i2⟩ := hi
  by_cases hneg : i < 0
  · have hb := Lib.hid (bitB_neg (val zs) i hneg)
    go_enter Tryd.func53, Tryd.ntmps53
    go_wp2
    go_ret
    exact ⟨by rw [hb.out]; rfl, .refl _⟩
  · obtain ⟨n, rfl⟩ := Int.eq_ofNat_of_zero_le (show 0 ≤ i by omega)
    have h0 : (0 : Int) ≤ (n : Int) := by omega
    by_cases hlen : zs.length ≤ n / 32
    · have hb := Lib.hid (bitB_out zs ux n hlen)
      have h3 : ¬ (n : Int) / 32 < (zs.length : Int) := by omega
      go_enter Tryd.func53, Tryd.ntmps53
      go_wp2_with fail
      go_ret
      exact ⟨by rw [hb.out]; rfl, .refl _⟩
    · have hb := Lib.hid (bitB_nat zs ux n)
      have h3 : (n : Int) / 32 < (zs.length : Int) := by omega
      obtain ⟨b, off, rfl, hcc⟩ := hc.cells (by omega)
      have hcell := hcc (n / 32) (by omega)
      have hbx := ux (n / 32)
      have hlt : n / 32 < zs.length := by omega
      have hlb := Lib.hid (show nth zs (n / 32) = ((lb zs (n / 32) : Nat) : Int) from (lb_cast ux _).symm)
      have hlr := Lib.hid (lb_lt ux (n / 32))
      clear hcc
      go_enter Tryd.func53, Tryd.ntmps53
      go_wp2_with fail
      go_ret
      refine ⟨?_, .refl _⟩
      rw [hb.out]
      refine congrArg Ending.returned (congrArg Value.bool ?_)
      have hr := hlr.out
      unfold R at hr
      have e : ((lb zs (n / 32) : Nat) : Int) / 2 ^ (n % 32) = ((lb zs (n / 32) / 2 ^ (n % 32) : Nat) : Int) := by rw [Int.natCast_ediv, Int.natCast_pow]; rfl
      have hd : lb zs (n / 32) / 2 ^ (n % 32) < 4294967296 := Nat.lt_of_le_of_lt (Nat.div_le_self _ _) hr
      rw [hlb.out, e, show (1 : Int) = ((1 : Nat) : Int) from rfl, u32_and_nat _ _ hd (by omega), nat_mask1, Bool.eq_iff_iff]
      simp
      omega
end Go.Proofs.YtbmdifeanocahaaDoor
/- signetlaw9: lent, still, turned, by their contracts. -/
set_option linter.unusedVariables false
set_option linter.unusedSimpArgs false
namespace Go.Proofs.YtbmdifeanocahaaDoor
open Go.RowKit Go.Sg

/-- Forty marks. -/
def marks : List Int := List.replicate 40 165
theorem marks_len : marks.length = 40 := by simp [marks]
theorem marks_u8 : U8 marks := .of_mem (by omega) (by intro x hx; have := List.eq_of_mem_replicate hx; omega)
theorem nth_marks (i : Nat) (h : i < 40) : nth marks i = 165 := nth_replicate _ _ _ h

/-- The bytes with marked room behind them, in new memory. -/
def LentPost (bs : List Int) (w : World) (e : Ending) (w' : World) : Prop :=
  ∃ g cap, e = .returned (.slice (some ⟨g, 0, none⟩) bs.length cap) ∧ w.heap.size ≤ g ∧ Pre w' g .u8 5 cap (bs ++ marks) ∧ Below w.heap.size w w'

set_option maxHeartbeats 1000000 in
theorem lent_c (a : Option Addr) (cap : Nat) (bs : List Int) (w : World) (hc : Sl .u8 w a cap bs) (hlen : bs.length ≤ 140737488355288) :
    Calls Tryd.prog 16 #[.slice a bs.length cap] w (LentPost bs w) := by
  have hm := hc.max
  go_enter Tryd.func16, Tryd.ntmps16
  go_wp2_with (at_builtin; refine wpList_append_new _ rfl _ _ 23 rfl w.heap.size 5 .u8 1 Tryd.underlying23 info8 _ [] rfl (New.nil _ _ _ _) _ _ _ bs rfl rfl hc.cells (by simp; omega) (by simp; omega) (Nat.le_refl _) ?_)
  intro v1 w1 hv1 hg1 _
  have hb1 : Below w.heap.size w w1 := (Below.refl _ _).grown hg1 (Nat.le_refl _) fun g hg => by simp [Value.ownBlock] at hg
  clear hg1
  go_wp2_with fail
  go_loopw [3, 4] (fun v t wr => ∃ j : Nat, j ≤ 40 ∧ t = .int .i64 (j : Int) ∧ New w.heap.size .u8 5 wr v (bs ++ List.replicate j 165) ∧ Below w.heap.size w wr)
    (fun _ t _ => 40 - (intOf t).toNat)
  case atStart => exact ⟨0, by omega, rfl, by simpa using hv1, hb1⟩
  case round =>
    obtain ⟨j, hj, rfl, hv, hb⟩ := hrel
    have hbs := hb.size
    by_cases hlt : j < 40
    · go_wp2_with (at_builtin; refine wpList_append_new _ rfl _ _ 23 rfl w.heap.size 5 .u8 1 Tryd.underlying23 info8 _ _ rfl (hv.alloc _) _ _ 1 [165] rfl rfl (cells_one _ _ _ _ _ rfl) (by simp; omega) (by simp; omega) (by simp; omega) ?_)
      intro v' w' hv' hg _
      have hb' : Below w.heap.size w w' := (hb.alloc (by omega) _).grown hg (by simp; omega) fun g hg => (hv.lt g hg).1
      replace hv' : New w.heap.size .u8 5 w' v' (bs ++ List.replicate (j + 1) 165) := by simpa [List.replicate_succ'] using hv'
      clear hg hv hb hbs
      go_wp2_with fail
      go_roundw
      case rel => exact ⟨j + 1, by omega, by go_num, hv', hb'⟩
      case measure => simp [intOf]; omega
    · obtain rfl : j = 40 := by omega
      obtain ⟨g, cp, rfl, hg, hp⟩ := hv.pre (by simp)
      have hle := hp.le
      have hmx := hp.max
      have hl2 : bs.length ≤ cp := by simp at hle; omega
      clear hle
      go_wp2_with fail
      go_ret
      exact ⟨g, cp, rfl, hg, hp, hb⟩

set_option maxHeartbeats 2000000 in
theorem still_c (g cap : Nat) (a : Option Addr) (cp : Nat) (bs : List Int) (w : World) (hp : Pre w g .u8 5 cap (bs ++ marks)) (hc : Sl .u8 w a cp bs) :
    Calls Tryd.prog 19 #[.slice (some ⟨g, 0, none⟩) bs.length cap, .slice a bs.length cp] w (BoolPost true w) := by
  have hle := hp.le
  have hmx := hp.max
  rw [List.length_append, marks_len] at hle
  go_enter Tryd.func19, Tryd.ntmps19
  go_wp2_with fail
  go_loopw [6] (fun t wr => ∃ i : Nat, i ≤ bs.length + 40 ∧ t = .int .i64 (i : Int) ∧ Dr w wr)
    (fun t _ => bs.length + 40 - (intOf t).toNat)
  case atStart => exact ⟨0, by omega, rfl, .refl _⟩
  case round =>
    obtain ⟨i, hi, rfl, nd, rfl⟩ := hrel
    by_cases hlt : i < bs.length + 40
    · have hcell := hp.cell i (by rw [List.length_append, marks_len]; omega)
      have hx : (i : Int) < (bs.length : Int) + 40 := by omega
      by_cases hin : i < bs.length
      · obtain ⟨b, off, rfl, hcc⟩ := hc.cells (by omega)
        have hcell2 := hcc i hin
        rw [nth_append_left _ _ _ hin] at hcell
        have g1 : decide ((i : Int) < (bs.length : Int)) = true := decide_eq_true (by omega)
        have g2 : decide ((bs.length : Int) ≤ (i : Int)) = false := decide_eq_false (by omega)
        have g3 : decide (i < bs.length) = true := decide_eq_true (by omega)
        have g4 : decide (bs.length ≤ i) = false := decide_eq_false (by omega)
        clear hcc
        go_wp2_with fail
        go_quiet (fail)
        go_wp2_with fail
        go_roundw
        case rel => exact ⟨i + 1, by omega, by go_num, (by repeat (first | exact Dr.refl _ | apply Dr.drewN))⟩
        case measure => simp [intOf]; omega
      · have hcell2 : nth (bs ++ marks) i = 165 := by
          obtain ⟨j, rfl⟩ : ∃ j, i = bs.length + j := ⟨i - bs.length, by omega⟩
          rw [nth_append_right, nth_marks _ (by omega)]
        rw [hcell2] at hcell
        have g1 : decide ((i : Int) < (bs.length : Int)) = false := decide_eq_false (by omega)
        have g2 : decide ((bs.length : Int) ≤ (i : Int)) = true := decide_eq_true (by omega)
        have g3 : decide (i < bs.length) = false := decide_eq_false (by omega)
        have g4 : decide (bs.length ≤ i) = true := decide_eq_true (by omega)
        clear hcell2
        go_wp2_with fail
        go_quiet (fail)
        go_wp2_with fail
        go_roundw
        case rel => exact ⟨i + 1, by omega, by go_num, (by repeat (first | exact Dr.refl _ | apply Dr.drewN))⟩
        case measure => simp [intOf]; omega
    · obtain rfl : i = bs.length + 40 := by omega
      have hx : ¬ (((bs.length + 40 : Nat) : Int) < (bs.length : Int) + 40) := by omega
      go_wp2_with fail
      go_ret
      exact ⟨rfl, nd, rfl⟩

theorem bits_u8_rng (op : BinOp) (x y : Int) : 0 ≤ bits op .u8 x y ∧ bits op .u8 x y ≤ 255 := by
  unfold bits
  simp only [IntKind.wrap_u8']
  omega
theorem bits_u32_rng (op : BinOp) (x y : Int) : 0 ≤ bits op .u32 x y ∧ bits op .u32 x y ≤ 4294967295 := by
  unfold bits
  simp only [IntKind.wrap_u32']
  omega

def TurnedPost (g cap n : Nat) (zs : List Int) (w : World) (e : Ending) (w' : World) : Prop :=
  e = .returned (.tuple #[]) ∧ ∃ ys, ys.length = n ∧ U8 ys ∧ Pre w' g .u8 5 cap (ys ++ zs) ∧ w.grownBy w' (some g)

set_option maxHeartbeats 1000000 in
theorem turned_c (g cap : Nat) (xs zs : List Int) (w : World) (hp : Pre w g .u8 5 cap (xs ++ zs)) (ux : U8 xs) :
    Calls Tryd.prog 20 #[.slice (some ⟨g, 0, none⟩) xs.length cap] w (TurnedPost g cap xs.length zs w) := by
  have hle := hp.le
  have hmx := hp.max
  rw [List.length_append] at hle
  by_cases h0 : xs.length = 0
  · have hz := Lib.hid h0
    rw [h0]
    go_enter Tryd.func20, Tryd.ntmps20
    go_wp2_with fail
    go_end0
    exact ⟨rfl, xs, hz.out, ux, hp, rfl, rfl, rfl, Nat.le_refl _, fun _ _ _ => rfl⟩
  · have hn : 0 < (xs.length : Int) := by omega
    have hl1 : xs.length - 1 < xs.length := by omega
    have hl2 : xs.length / 2 < xs.length := by omega
    have c1 := hp.cell (xs.length - 1) (by simp; omega)
    have f1 := hp.free (xs.length - 1)
    rw [nth_append_left _ _ _ hl1] at c1
    have hp2 := hp.set (xs.length - 1) (bits .xor .u8 (nth xs (xs.length - 1)) 2)
    rw [List.set_append_left _ _ hl1] at hp2
    have u2 := ux.set (xs.length - 1) (bits_u8_rng .xor (nth xs (xs.length - 1)) 2).1 (bits_u8_rng .xor (nth xs (xs.length - 1)) 2).2
    obtain ⟨ys, hys⟩ : ∃ ys, ys = xs.set (xs.length - 1) (bits .xor .u8 (nth xs (xs.length - 1)) 2) := ⟨_, rfl⟩
    rw [← hys] at hp2 u2
    have hyl : ys.length = xs.length := by rw [hys]; simp
    have c2 := hp2.cell (xs.length / 2) (by simp; omega)
    have f2 := hp2.free (xs.length / 2)
    rw [nth_append_left _ _ _ (by omega)] at c2
    have hp3 := hp2.set (xs.length / 2) (bits .xor .u8 (nth ys (xs.length / 2)) 16)
    rw [List.set_append_left _ _ (by omega)] at hp3
    have u3 := u2.set (xs.length / 2) (bits_u8_rng .xor (nth ys (xs.length / 2)) 16).1 (bits_u8_rng .xor (nth ys (xs.length / 2)) 16).2
    have HY := Lib.hid hyl
    clear hys hyl
    go_enter Tryd.func20, Tryd.ntmps20
    go_wp2_with fail
    go_end0
    exact ⟨rfl, _, by rw [List.length_set]; exact HY.out, u3, hp3, grownBy_trans (grownBy_set _ _ _) (grownBy_set _ _ _)⟩
end Go.Proofs.YtbmdifeanocahaaDoor
/- rsa1.Key, signetref9.Key, by their contracts. -/
set_option linter.unusedVariables false
set_option linter.unusedSimpArgs false
namespace Go.Proofs.YtbmdifeanocahaaDoor
open Go.RowKit Go.Sg

def keyOk (ns es : List Int) : Prop := 0 < ns.length ∧ nth ns 0 ≠ 0 ∧ bval ns % 2 = 1 ∧ 0 < es.length ∧ nth es 0 ≠ 0 ∧ 2048 ≤ bl (bval ns) ∧ bl (bval ns) ≤ 4096 ∧ bval es % 2 = 1 ∧ 3 ≤ bval es ∧ bval es ≤ 4294967295
instance (ns es : List Int) : Decidable (keyOk ns es) := by unfold keyOk; infer_instance
def keyCode (ns es : List Int) : Int := if keyOk ns es then 0 else 90
theorem keyCode_ok {ns es : List Int} (h : keyOk ns es) : keyCode ns es = 0 := if_pos h
theorem keyCode_no {ns es : List Int} (h : ¬ keyOk ns es) : keyCode ns es = 90 := if_neg h
theorem keyCode_rng (ns es : List Int) : keyCode ns es = 0 ∨ keyCode ns es = 90 := by unfold keyCode; split <;> simp

theorem bval_odd (xs : List Int) (h : 0 < xs.length) (u : U8 xs) : ((bval xs % 2 : Nat) : Int) = nth xs (xs.length - 1) % 2 := by
  obtain ⟨n, hn⟩ : ∃ n, xs.length = n + 1 := ⟨xs.length - 1, by omega⟩
  have e := bval_take_succ xs n (by omega)
  rw [← hn, List.take_length] at e
  rw [e, hn, Nat.add_sub_cancel]
  have := u n
  unfold lb
  omega

theorem canon_bytes_len {zs bs : List Int} (c : Canon zs) (uz : U32 zs) (ub : U8 bs) (h : val zs = bval bs) : zs.length ≤ (bs.length + 3) / 4 := by
  apply c.len_lt uz
  rw [h, R_pow_256]
  exact Nat.lt_of_lt_of_le (bval_lt ub) (Nat.pow_le_pow_right (by decide) (by omega))

def KeyPost (ns es : List Int) (w : World) (e : Ending) (w' : World) : Prop := e = .returned (.int .i64 (keyCode ns es)) ∧ Below w.heap.size w w'

set_option maxHeartbeats 4000000 in
theorem Key_c (a a' : Option Addr) (cap cap' : Nat) (ns es : List Int) (w : World) (hx : Sl .u8 w a cap ns) (hy : Sl .u8 w a' cap' es) (ux : U8 ns) (uy : U8 es) (hl : ns.length ≤ 140737488355328) (hl' : es.length ≤ 140737488355328) :
    Calls Tryd.prog 21 #[.slice a ns.length cap, .slice a' es.length cap'] w (KeyPost ns es w) := by
  have ua := ux 0
  have ub := ux (ns.length - 1)
  have uc := uy 0
  by_cases h1 : ns.length = 0
  · have hk := Lib.hid (keyCode_no (ns := ns) (es := es) fun h => by have := h.1; omega)
    have e1 : ((ns.length : Int) == 0) = true := by simp [h1]
    clear h1
    go_enter Tryd.func21, Tryd.ntmps21
    go_wp2_with fail
    go_ret
    exact ⟨by rw [hk.out]; rfl, .refl _ _⟩
  have e1 : ((ns.length : Int) == 0) = false := beq_false_of_ne (by omega)
  have p1 : 0 < ns.length := by omega
  obtain ⟨b, off, rfl, hcc⟩ := hx.cells (by omega)
  have c0 := hcc 0 (by omega)
  rw [Nat.add_zero] at c0
  have c1 := hcc (ns.length - 1) (by omega)
  have hodd := Lib.hid (bval_odd ns (by omega) ux)
  clear hcc h1
  by_cases h2 : nth ns 0 = 0
  · have hk := Lib.hid (keyCode_no (ns := ns) (es := es) fun h => h.2.1 h2)
    have e2 : (nth ns 0 == 0) = true := by simp [h2]
    clear h2
    go_enter Tryd.func21, Tryd.ntmps21
    go_wp2_with fail
    go_ret
    exact ⟨by rw [hk.out]; rfl, .refl _ _⟩
  have e2 : (nth ns 0 == 0) = false := beq_false_of_ne h2
  by_cases h3 : nth ns (ns.length - 1) % 2 = 0
  · have hk := Lib.hid (keyCode_no (ns := ns) (es := es) fun h => by have := h.2.2.1; have := hodd.out; omega)
    have e3 : (nth ns (ns.length - 1) % 2 == 0) = true := by simp [h3]
    clear h3 h2
    go_enter Tryd.func21, Tryd.ntmps21
    go_wp2_with fail
    go_ret
    exact ⟨by rw [hk.out]; rfl, .refl _ _⟩
  have e3 : (nth ns (ns.length - 1) % 2 == 0) = false := beq_false_of_ne h3
  by_cases h4 : es.length = 0
  · have hk := Lib.hid (keyCode_no (ns := ns) (es := es) fun h => by have := h.2.2.2.1; omega)
    have e4 : ((es.length : Int) == 0) = true := by simp [h4]
    clear h4 h3 h2
    go_enter Tryd.func21, Tryd.ntmps21
    go_wp2_with fail
    go_ret
    exact ⟨by rw [hk.out]; rfl, .refl _ _⟩
  have e4 : ((es.length : Int) == 0) = false := beq_false_of_ne (by omega)
  have p4 : 0 < es.length := by omega
  obtain ⟨b', off', rfl, hcc'⟩ := hy.cells (by omega)
  have c2 := hcc' 0 (by omega)
  rw [Nat.add_zero] at c2
  clear hcc' h4
  by_cases h5 : nth es 0 = 0
  · have hk := Lib.hid (keyCode_no (ns := ns) (es := es) fun h => h.2.2.2.2.1 h5)
    have e5 : (nth es 0 == 0) = true := by simp [h5]
    clear h5 h3 h2
    go_enter Tryd.func21, Tryd.ntmps21
    go_wp2_with fail
    go_ret
    exact ⟨by rw [hk.out]; rfl, .refl _ _⟩
  have e5 : (nth es 0 == 0) = false := beq_false_of_ne h5
  have H2 := Lib.hid h2
  have H5 := Lib.hid h5
  have H3 := Lib.hid h3
  clear h2 h3 h5
  go_enter Tryd.func21, Tryd.ntmps21
  go_wp2_with fail
  refine (FromBytes_c _ _ _ _ hx ux hl).mono ?_; rintro e w1 ⟨v1, rfl, ⟨z1, hn1, cz1, uz1, hv1⟩, hb1⟩
  have hz1 : z1.length ≤ 35184372088832 := by have := canon_bytes_len cz1 uz1 ux hv1; omega
  obtain ⟨a1, c1', rfl, hs1⟩ := hn1.sl
  have V1 := Lib.hid hv1
  clear hv1
  go_wp2_with fail
  refine (Bits_c _ _ _ _ hs1 uz1 (by omega)).mono ?_; rintro e w' ⟨rfl, rfl⟩
  have hy1 := hy.below (w' := w1) (hb1.mono (Nat.le_refl _))
  go_wp2_with fail
  refine (FromBytes_c _ _ _ _ hy1 uy hl').mono ?_; rintro e w2 ⟨v2, rfl, ⟨z2, hn2, cz2, uz2, hv2⟩, hb2⟩
  obtain ⟨a2, c2', rfl, hs2⟩ := hn2.sl
  have V2 := Lib.hid hv2
  have hbb := hb1.trans (hb2.mono hb1.size)
  clear hv2
  go_wp2_with fail
  refine (Uint_c _ _ _ _ hs2 uz2).mono ?_; rintro e w' ⟨rfl, rfl⟩
  obtain ⟨nb, hnb⟩ : ∃ nb, nb = bl (val z1) := ⟨_, rfl⟩
  obtain ⟨ev, hev⟩ : ∃ ev, ev = val z2 := ⟨_, rfl⟩
  rw [← hnb, ← hev]
  rw [V1.out] at hnb
  rw [V2.out] at hev
  have fin : Hid (2048 ≤ nb ∧ nb ≤ 4096 ∧ ev % 2 = 1 ∧ 3 ≤ ev ∧ ev ≤ 4294967295 ↔ keyOk ns es) := by
    refine Lib.hid ⟨fun ⟨g1, g2, g3, g4, g5⟩ => ⟨p1, H2.out, ?_, p4, H5.out, by omega, by omega, by omega, by omega, by omega⟩, fun h => ?_⟩
    · have := H3.out; have := hodd.out; omega
    · obtain ⟨_, _, _, _, _, g1, g2, g3, g4, g5⟩ := h
      rw [hnb, hev]; exact ⟨g1, g2, g3, g4, g5⟩
  have NB := Lib.hid hnb
  have EV := Lib.hid hev
  clear hnb hev
  by_cases q1 : nb < 2048
  · have hk := Lib.hid (keyCode_no (ns := ns) (es := es) fun h => by have := fin.out.2 h; omega)
    go_wp2_with fail
    go_ret
    exact ⟨by rw [hk.out]; rfl, hbb⟩
  by_cases q2 : 4096 < nb
  · have hk := Lib.hid (keyCode_no (ns := ns) (es := es) fun h => by have := fin.out.2 h; omega)
    go_wp2_with fail
    go_ret
    exact ⟨by rw [hk.out]; rfl, hbb⟩
  by_cases q3 : ev < R ^ 2
  · have hV : uintV ev = (ev : Int) := if_pos q3
    have hB : uintB ev = true := decide_eq_true q3
    rw [hV, hB]
    have q3' : ev < 18446744073709551616 := q3
    clear hV hB q3
    by_cases q4 : ev % 2 = 0
    · have hk := Lib.hid (keyCode_no (ns := ns) (es := es) fun h => by have := fin.out.2 h; omega)
      have e6 : ((ev : Int) % 2 == 0) = true := by simp; omega
      clear q4
      go_wp2_with fail
      go_ret
      exact ⟨by rw [hk.out]; rfl, hbb⟩
    have e6 : ((ev : Int) % 2 == 0) = false := beq_false_of_ne (by omega)
    by_cases q5 : ev < 3
    · have hk := Lib.hid (keyCode_no (ns := ns) (es := es) fun h => by have := fin.out.2 h; omega)
      clear q4
      go_wp2_with fail
      go_ret
      exact ⟨by rw [hk.out]; rfl, hbb⟩
    by_cases q6 : 4294967295 < ev
    · have hk := Lib.hid (keyCode_no (ns := ns) (es := es) fun h => by have := fin.out.2 h; omega)
      clear q4
      go_wp2_with fail
      go_ret
      exact ⟨by rw [hk.out]; rfl, hbb⟩
    have hk := Lib.hid (keyCode_ok (ns := ns) (es := es) (fin.out.1 (by omega)))
    clear q4
    go_wp2_with fail
    go_ret
    exact ⟨by rw [hk.out]; rfl, hbb⟩
  · have hV : uintV ev = 0 := if_neg q3
    have hB : uintB ev = false := decide_eq_false q3
    have q3' : ¬ ev < 18446744073709551616 := q3
    have hk := Lib.hid (keyCode_no (ns := ns) (es := es) fun h => by have := fin.out.2 h; omega)
    rw [hV, hB]
    clear hV hB q3 q3'
    go_wp2_with fail
    go_ret
    exact ⟨by rw [hk.out]; rfl, hbb⟩

theorem bitB_zero (n : Nat) : bitB n 0 = decide (n % 2 = 1) := by
  unfold bitB
  apply decide_eq_decide.2
  simp
theorem sl_one (w : World) (e : TypeId) (x : Int) (n : Nat) (hn : n = w.heap.size) : Sl .u32 (w.alloc (.cells #[.int .u32 x] e)) (some ⟨n, 0, none⟩) 1 [x] :=
  ⟨by simp, by omega, cells_one _ _ _ _ _ hn⟩

set_option maxHeartbeats 4000000 in
theorem rKey_c (a a' : Option Addr) (cap cap' : Nat) (ns es : List Int) (w : World) (hx : Sl .u8 w a cap ns) (hy : Sl .u8 w a' cap' es) (ux : U8 ns) (uy : U8 es) (hl : ns.length ≤ 140737488355328) (hl' : es.length ≤ 140737488355328) :
    Calls Tryd.prog 44 #[.slice a ns.length cap, .slice a' es.length cap'] w (KeyPost ns es w) := by
  have ua := ux 0
  have uc := uy 0
  by_cases h1 : ns.length = 0
  · have hk := Lib.hid (keyCode_no (ns := ns) (es := es) fun h => by have := h.1; omega)
    have e1 : ((ns.length : Int) == 0) = true := by simp [h1]
    clear h1
    go_enter Tryd.func44, Tryd.ntmps44
    go_wp2_with fail
    go_ret
    exact ⟨by rw [hk.out]; rfl, .refl _ _⟩
  have e1 : ((ns.length : Int) == 0) = false := beq_false_of_ne (by omega)
  have p1 : 0 < ns.length := by omega
  obtain ⟨b, off, rfl, hcc⟩ := hx.cells (by omega)
  have c0 := hcc 0 (by omega)
  rw [Nat.add_zero] at c0
  clear hcc h1
  by_cases h4 : es.length = 0
  · have hk := Lib.hid (keyCode_no (ns := ns) (es := es) fun h => by have := h.2.2.2.1; omega)
    have e4 : ((es.length : Int) == 0) = true := by simp [h4]
    clear h4
    go_enter Tryd.func44, Tryd.ntmps44
    go_wp2_with fail
    go_ret
    exact ⟨by rw [hk.out]; rfl, .refl _ _⟩
  have e4 : ((es.length : Int) == 0) = false := beq_false_of_ne (by omega)
  have p4 : 0 < es.length := by omega
  obtain ⟨b', off', rfl, hcc'⟩ := hy.cells (by omega)
  have c2 := hcc' 0 (by omega)
  rw [Nat.add_zero] at c2
  clear hcc' h4
  by_cases h2 : nth ns 0 = 0
  · have hk := Lib.hid (keyCode_no (ns := ns) (es := es) fun h => h.2.1 h2)
    have e2 : (nth ns 0 == 0) = true := by simp [h2]
    clear h2
    go_enter Tryd.func44, Tryd.ntmps44
    go_wp2_with fail
    go_ret
    exact ⟨by rw [hk.out]; rfl, .refl _ _⟩
  have e2 : (nth ns 0 == 0) = false := beq_false_of_ne h2
  by_cases h5 : nth es 0 = 0
  · have hk := Lib.hid (keyCode_no (ns := ns) (es := es) fun h => h.2.2.2.2.1 h5)
    have e5 : (nth es 0 == 0) = true := by simp [h5]
    clear h5 h2
    go_enter Tryd.func44, Tryd.ntmps44
    go_wp2_with fail
    go_ret
    exact ⟨by rw [hk.out]; rfl, .refl _ _⟩
  have e5 : (nth es 0 == 0) = false := beq_false_of_ne h5
  have H2 := Lib.hid h2
  have H5 := Lib.hid h5
  clear h2 h5
  go_enter Tryd.func44, Tryd.ntmps44
  go_wp2_with fail
  refine (rFromBytes_c _ _ _ _ hx ux hl).mono ?_; rintro e w1 ⟨v1, rfl, ⟨z1, hn1, cz1, uz1, hv1⟩, hb1⟩
  have hz1 : z1.length ≤ 35184372088832 := by have := canon_bytes_len cz1 uz1 ux hv1; omega
  obtain ⟨a1, c1', rfl, hs1⟩ := hn1.sl
  have V1 := Lib.hid hv1
  clear hv1
  have hy1 := hy.below (w' := w1) (hb1.mono (Nat.le_refl _))
  go_wp2_with fail
  refine (rFromBytes_c _ _ _ _ hy1 uy hl').mono ?_; rintro e w2 ⟨v2, rfl, ⟨z2, hn2, cz2, uz2, hv2⟩, hb2⟩
  have hz2 : z2.length ≤ 35184372088832 := by have := canon_bytes_len cz2 uz2 uy hv2; omega
  obtain ⟨a2, c2', rfl, hs2⟩ := hn2.sl
  have V2 := Lib.hid hv2
  have hbb := hb1.trans (hb2.mono hb1.size)
  have hs1 := hs1.below hb2
  clear hv2 hb1 hb2
  go_wp2_with fail
  refine (rBits_c _ _ _ _ hs1 uz1 hz1).mono ?_; rintro e w3 ⟨rfl, hb3⟩
  have hbb := hbb.trans (hb3.mono hbb.size)
  have hs1 := hs1.below hb3
  have hs2 := hs2.below hb3
  clear hb3
  go_wp2_with fail
  refine (rBit_c _ _ _ 0 _ hs1 uz1 (by omega)).mono ?_; rintro e w4 ⟨rfl, hd4⟩
  have hs2 := hs2.below hd4.below
  go_wp2_with fail
  refine (rBit_c _ _ _ 0 _ hs2 uz2 (by omega)).mono ?_; rintro e w5 ⟨rfl, hd5⟩
  have hbb := (hbb.trans hd4.belowB).trans hd5.belowB
  have hs2'' := (hs2.below hd5.below).below (w' := w5.alloc (.cells #[.int .u32 3] 51)) ((Below.refl _ _).alloc (Nat.le_refl _) _)
  have hone := sl_one w5 51 3 _ rfl
  have hbb2 := hbb.alloc hbb.size (.cells #[.int .u32 3] 51)
  clear hs1 hs2 hbb hd4 hd5
  have u3 : U32 [3] := .one (by omega) (by omega)
  go_wp2_with fail
  refine (rCmp_c _ _ _ _ _ _ _ hs2'' hone uz2 u3).mono ?_; rintro e w' ⟨rfl, rfl⟩
  have hv3 : val [3] = 3 := rfl
  obtain ⟨nb, hnb⟩ : ∃ nb, nb = bl (val z1) := ⟨_, rfl⟩
  obtain ⟨m, hm⟩ : ∃ m, m = val z1 := ⟨_, rfl⟩
  obtain ⟨ev, hev⟩ : ∃ ev, ev = val z2 := ⟨_, rfl⟩
  rw [← hnb, ← hev, ← hm, hv3, bitB_zero, bitB_zero]
  rw [V1.out] at hnb hm
  have HE2 := Lib.hid hev
  rw [V2.out] at hev
  have fin : Hid (2048 ≤ nb ∧ nb ≤ 4096 ∧ m % 2 = 1 ∧ ev % 2 = 1 ∧ 3 ≤ ev ∧ ev ≤ 4294967295 ↔ keyOk ns es) := by
    rw [hnb, hm, hev]
    exact Lib.hid ⟨fun ⟨g1, g2, g0, g3, g4, g5⟩ => ⟨p1, H2.out, g0, p4, H5.out, g1, g2, g3, g4, g5⟩, fun h => by
      obtain ⟨_, _, g0, _, _, g1, g2, g3, g4, g5⟩ := h
      exact ⟨g1, g2, g0, g3, g4, g5⟩⟩
  have NB := Lib.hid hnb
  have HM := Lib.hid hm
  clear hnb hev hm hv3
  by_cases q1 : nb < 2048
  · have hk := Lib.hid (keyCode_no (ns := ns) (es := es) fun h => by have := fin.out.2 h; omega)
    go_wp2_with fail
    go_ret
    exact ⟨by rw [hk.out]; rfl, hbb2⟩
  by_cases q2 : 4096 < nb
  · have hk := Lib.hid (keyCode_no (ns := ns) (es := es) fun h => by have := fin.out.2 h; omega)
    go_wp2_with fail
    go_ret
    exact ⟨by rw [hk.out]; rfl, hbb2⟩
  by_cases q0 : m % 2 = 1
  · rw [decide_eq_true q0]
    by_cases q3 : ev % 2 = 1
    · rw [decide_eq_true q3]
      by_cases q4 : ev < 3
      · have hk := Lib.hid (keyCode_no (ns := ns) (es := es) fun h => by have := fin.out.2 h; omega)
        rw [cmpI_lt q4]
        clear q0 q3
        go_wp2_with fail
        go_ret
        exact ⟨by rw [hk.out]; rfl, hbb2⟩
      · have hcr := cmpI_rng ev 3
        have hcg : 0 ≤ cmpI ev 3 := by unfold cmpI; rw [if_neg q4]; split <;> omega
        have hcm : ¬ cmpI ev 3 < 0 := by omega
        generalize cmpI ev 3 = cc at *
        have Q0 := Lib.hid q0
        have Q3 := Lib.hid q3
        clear q0 q3
        go_wp2_with fail
        refine (rBits_c _ _ _ _ hs2'' uz2 hz2).mono ?_; rintro e w6 ⟨rfl, hb6⟩
        rw [← HE2.out]
        have hbb := hbb2.trans (hb6.mono hbb2.size)
        by_cases q5 : 32 < bl ev
        · have hk := Lib.hid (keyCode_no (ns := ns) (es := es) fun h => by
            have := fin.out.2 h
            have : bl ev ≤ 32 := (bl_le_iff _ _).2 (by omega)
            omega)
          go_wp2_with fail
          go_ret
          exact ⟨by rw [hk.out]; rfl, hbb⟩
        · have hk := Lib.hid (keyCode_ok (ns := ns) (es := es) (fin.out.1 (by
            have := (bl_le_iff ev 32).1 (by omega)
            have := Q0.out
            have := Q3.out
            omega)))
          go_wp2_with fail
          go_ret
          exact ⟨by rw [hk.out]; rfl, hbb⟩
    · have hk := Lib.hid (keyCode_no (ns := ns) (es := es) fun h => by have := fin.out.2 h; omega)
      rw [decide_eq_false q3]
      clear q0 q3
      go_wp2_with fail
      go_ret
      exact ⟨by rw [hk.out]; rfl, hbb2⟩
  · have hk := Lib.hid (keyCode_no (ns := ns) (es := es) fun h => by have := fin.out.2 h; omega)
    rw [decide_eq_false q0]
    clear q0
    go_wp2_with fail
    go_ret
    exact ⟨by rw [hk.out]; rfl, hbb2⟩
end Go.Proofs.YtbmdifeanocahaaDoor
