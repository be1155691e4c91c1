import Derived.Test.YtlolkighnnedfaaDoorZ5
import Derived.BigRegion
import Derived.Test.YtlolkighnnedfaaDoorZ1
/- package nat: FromBytes, Uint, by their contracts. -/
set_option linter.unusedVariables false
set_option linter.unusedSimpArgs false
namespace Go.Proofs.YtlolkighnnedfaaDoor
open Go.RowKit Go.Sg

theorem info32 : (Tryd.prog.info? 36).map (fun i => (i.zero, i.size, i.bytes)) = some (some (.int .u32 0), 1, 4) := by kernel_rfl
theorem info8 : (Tryd.prog.info? 5).map (fun i => (i.zero, i.size, i.bytes)) = some (some (.int .u8 0), 1, 1) := by kernel_rfl

/-- The number n, in new memory, without noughts on top. -/
def NatRes (B : Nat) (w : World) (v : Value) (n : Nat) : Prop := ∃ zs, New B .u32 36 w v zs ∧ Canon zs ∧ U32 zs ∧ val zs = n
def NatPost (n : Nat) (w : World) (e : Ending) (w' : World) : Prop := ∃ v, e = .returned v ∧ NatRes w.heap.size w' v n ∧ Below w.heap.size w w'

theorem NatRes.of_blk {B g n : Nat} {w : World} {L : List Int} (h : Blk w g .u32 36 L) (hB : B ≤ g) (hu : U32 L) (hv : val L = n) (hl : L.length ≤ 9223372036854775807) : NatRes B w (.slice (some ⟨g, 0, none⟩) (norm L).length (norm L).length) n := by
  have h1 := topz_le L
  refine ⟨norm L, ?_, Canon.norm L, hu.norm, by rw [val_norm, hv]⟩
  rw [length_norm]
  exact New.of_blk h hB (topz L) (topz L) (Nat.le_refl _) h1 (by omega)

set_option maxHeartbeats 400000 in
theorem FromBytes_c (a : Option Addr) (cap : Nat) (bs : List Int) (w : World) (hc : Sl .u8 w a cap bs) (ub : U8 bs) (hl : bs.length ≤ 140737488355328) :
    Calls Tryd.prog 68 #[.slice a bs.length cap] w (NatPost (bval bs) w) := by
  go_enter Tryd.func68, Tryd.ntmps68
  obtain ⟨n, hn⟩ : ∃ n, n = (bs.length + 3) / 4 := ⟨_, rfl⟩
  have E4 : Hid (((bs.length : Int) + 3) / 4 = (n : Int)) := Lib.hid (by omega)
  have hn1 : 4 * n ≤ bs.length + 3 := by omega
  have Hn := Lib.hid hn
  clear hn
  go_wp2_with (at_make; refine wpList_make_blk _ rfl _ _ 26 rfl 36 .u32 4 Tryd.underlying26 info32 n _ _ rfl rfl E4.out E4.out (by omega) (by omega) ?_)
  intro w1 hk1 hs1 hb1
  have hs := Lib.hid hs1
  clear hs1
  go_wp2_with fail
  go_loopw [14] (fun t wr => ∃ i : Nat, i ≤ bs.length ∧ t = .int .i64 (i : Int) ∧ ∃ L, Blk wr w.heap.size .u32 36 L ∧ L.length = n ∧ U32 L ∧ FbInv bs L i ∧ Below w.heap.size w wr)
    (fun t _ => bs.length - (intOf t).toNat)
  case atStart => exact ⟨0, by omega, rfl, _, hk1, by simp, .zeros (by omega) _, .start _ _, hb1⟩
  case round =>
    obtain ⟨i, hi, rfl, L, hL, hLn, hu, hF, hb⟩ := hrel
    have HLn := Lib.hid hLn; clear hLn
    by_cases hlt : i < bs.length
    · obtain ⟨b, off, rfl, hcc⟩ := hc.cells (by omega)
      have hcb : wr.cell? ⟨b, off + i, none⟩ = some (.int .u8 (nth bs i)) := (hb.cell (World.block_lt_of_cell? w _ (hcc i hlt))).trans (hcc i hlt)
      have hbi := ub i
      obtain ⟨at_, hat⟩ : ∃ at_, at_ = bs.length - 1 - i := ⟨_, rfl⟩
      have eat : ((bs.length : Int) - 1 - (i : Int)) = (at_ : Int) := by omega
      have hq : at_ / 4 < L.length := by have := HLn.out; have := Hn.out; omega
      have hcl := hL.cell (at_ / 4) hq
      have hfr := hL.free (at_ / 4)
      have hln : at_ / 4 < n := by have := HLn.out; omega
      have hul := hu (at_ / 4)
      have HS := Lib.hid (hF.step ub hu hlt at_ hat hq)
      have Hat := Lib.hid hat
      clear hcc hat hq
      go_wp2_with fail
      go_region
      all_goals go_wp2
      go_roundw
      case rel =>
        obtain ⟨y, hy, y0, y1, hF'⟩ := HS.out
        rw [hy]
        exact ⟨i + 1, by omega, by go_num, L.set (at_ / 4) y, hL.set _ _, by have := HLn.out; simpa using this, hu.set _ y0 y1, hF', (hb.setCell (Nat.le_refl _) _).drew⟩
      case measure => simp [intOf]; omega
    · obtain rfl : i = bs.length := by omega
      have hv := Lib.hid hF.done
      have HS : Hid (Sl .u32 wr (some ⟨w.heap.size, 0, none⟩) n L) := Lib.hid (by have e := HLn.out; have := hL.sl_full (by rw [e]; omega); rwa [e] at this)
      clear hF
      go_wp2_with fail
      rw [← HLn.out]
      refine (proper_c _ _ _ _ (by rw [HLn.out]; exact HS.out)).mono ?_; rintro e w' ⟨rfl, rfl⟩
      go_wp2_with fail
      go_ret
      exact ⟨_, rfl, .of_blk hL (Nat.le_refl _) hu hv.out (by rw [HLn.out]; omega), hb⟩

/-! ### Uint -/
def uintV (n : Nat) : Int := if n < R ^ 2 then (n : Int) else 0
def uintB (n : Nat) : Bool := decide (n < R ^ 2)
def UintPost (n : Nat) (w : World) (e : Ending) (w' : World) : Prop := e = .returned (.tuple #[.int .u64 (uintV n), .bool (uintB n)]) ∧ w = w'

theorem or_u64 (u c : Nat) (k : Nat) (hk : k < 2) (hu : u < R ^ k) (hc : c < R) : bits .or .u64 (u : Int) ((c : Int) * 2 ^ (32 * k) % 18446744073709551616) = ((u + R ^ k * c : Nat) : Int) ∧ u + R ^ k * c < 18446744073709551616 := by
  unfold R at hc
  rcases (show k = 0 ∨ k = 1 by omega) with rfl | rfl
  · obtain rfl : u = 0 := by simpa using hu
    have e : ((c : Int) * 2 ^ (32 * 0) % 18446744073709551616) = (c : Int) := by simp; omega
    rw [e]
    have := u64_or_nat 0 c (by omega) (by omega)
    simp only [Nat.zero_or] at this
    refine ⟨by simpa using this, by simp; omega⟩
  · have hu' : u < 4294967296 := by simpa [R] using hu
    have e : ((c : Int) * 2 ^ (32 * 1) % 18446744073709551616) = ((4294967296 * c : Nat) : Int) := by
      rw [show (2 : Int) ^ (32 * 1) = 4294967296 from rfl]; omega
    rw [e, u64_or_nat _ _ (by omega) (by omega), show R ^ 1 = 4294967296 from rfl]
    have := nat_join 32 (4294967296 * c) u (by omega) (by omega)
    rw [Nat.or_comm] at this
    rw [this]
    exact ⟨by omega, by omega⟩

end Go.Proofs.YtlolkighnnedfaaDoor
/- math/bits.Sub32; nat.take, Add, Mul, by their contracts. -/
set_option linter.unusedVariables false
set_option linter.unusedSimpArgs false
namespace Go.Proofs.YtlolkighnnedfaaDoor
open Go.RowKit Go.Sg

theorem tb31 (x : Nat) (h : x < 4294967296) : x / 2147483648 = (x.testBit 31).toNat := by
  rw [Nat.testBit_eq_decide_div_mod_eq]
  have e : x / 2 ^ 31 % 2 = x / 2147483648 := by
    rw [show (2 : Nat) ^ 31 = 2147483648 from rfl]; omega
  rw [e]
  rcases (show x / 2147483648 = 0 ∨ x / 2147483648 = 1 by omega) with h | h <;> rw [h] <;> rfl
theorem tb31' (x : Nat) (h : x < 4294967296) : x.testBit 31 = decide (2147483648 ≤ x) := by
  rw [Nat.testBit_eq_decide_div_mod_eq]
  apply decide_eq_decide.2
  rw [show (2 : Nat) ^ 31 = 2147483648 from rfl]; omega
/-- What Sub32 borrows. -/
theorem borrow_bits (x y d b b' : Nat) (hx : x < 4294967296) (hy : y < 4294967296) (hd : d < 4294967296) (hb : b ≤ 1) (h : d + y + b = x + 4294967296 * b') :
    (((4294967295 - x) &&& y) ||| ((4294967295 - (x ^^^ y)) &&& d)) / 2147483648 = b' := by
  have hxy : x ^^^ y < 4294967296 := Nat.xor_lt_two_pow (n := 32) hx hy
  have n1 : ∀ z, z < 4294967296 → (4294967295 - z).testBit 31 = !(z.testBit 31) := by
    intro z hz
    rw [tb31' _ (by omega), tb31' z hz]
    by_cases h : 2147483648 ≤ z
    · rw [decide_eq_true h, decide_eq_false (by omega)]; rfl
    · rw [decide_eq_false h, decide_eq_true (by omega)]; rfl
  have hlt : (((4294967295 - x) &&& y) ||| ((4294967295 - (x ^^^ y)) &&& d)) < 4294967296 :=
    Nat.or_lt_two_pow (n := 32) (Nat.and_lt_two_pow _ hy) (Nat.and_lt_two_pow _ hd)
  rw [tb31 _ hlt, Nat.testBit_or, Nat.testBit_and, Nat.testBit_and, n1 x hx, n1 _ hxy, Nat.testBit_xor, tb31' x hx, tb31' y hy, tb31' d hd]
  by_cases h1 : 2147483648 ≤ x <;> by_cases h2 : 2147483648 ≤ y <;> by_cases h3 : 2147483648 ≤ d <;> simp [h1, h2, h3] <;> omega

theorem xor_all (x : Nat) (h : x < 4294967296) : 4294967295 ^^^ x = 4294967295 - x := by
  apply Nat.eq_of_testBit_eq
  intro i
  rw [Nat.testBit_xor, show 4294967295 - x = 2 ^ 32 - (x + 1) by omega, Nat.testBit_two_pow_sub_succ (show x < 2 ^ 32 from h), show (4294967295 : Nat) = 2 ^ 32 - 1 from rfl, Nat.testBit_two_pow_sub_one]
  by_cases hi : i < 32
  · simp [hi]
  · have : x.testBit i = false := Nat.testBit_lt_two_pow (Nat.lt_of_lt_of_le h (Nat.pow_le_pow_right (n := 2) (by decide) (show 32 ≤ i by omega)))
    simp [hi, this]
theorem not_u32 (x : Nat) (h : x < 4294967296) : bits .xor .u32 IntKind.u32.max (x : Int) = ((4294967295 - x : Nat) : Int) := by
  rw [show IntKind.u32.max = ((4294967295 : Nat) : Int) from rfl, u32_xor_nat _ _ (by omega) h, xor_all x h]

/-- d + y + b = x + 2^32 b'. -/
def Sub32Post (x y b : Nat) (w : World) (e : Ending) (w' : World) : Prop :=
  ∃ d b' : Nat, e = .returned (.tuple #[.int .u32 (d : Int), .int .u32 (b' : Int)]) ∧ w = w' ∧ d < R ∧ b' ≤ 1 ∧ d + y + b = x + R * b'

set_option maxHeartbeats 1000000 in
theorem Sub32_c (x y b : Nat) (w : World) (hx : x < R) (hy : y < R) (hb : b ≤ 1) :
    Calls Tryd.prog 136 #[.int .u32 (x : Int), .int .u32 (y : Int), .int .u32 (b : Int)] w (Sub32Post x y b w) := by
  unfold R at hx hy
  have hxx : (x : Int) ≤ 4294967295 := by omega
  have hyy : (y : Int) ≤ 4294967295 := by omega
  have hbb : (b : Int) ≤ 1 := by omega
  go_enter Tryd.func136, Tryd.ntmps136
  go_wp2
  go_ret2
  obtain ⟨d, hd⟩ : ∃ d : Nat, (d : Int) = ((x : Int) - y - b) % 4294967296 := ⟨(((x : Int) - y - b) % 4294967296).toNat, by omega⟩
  obtain ⟨b', hb'⟩ : ∃ b' : Nat, b' = if x < y + b then 1 else 0 := ⟨_, rfl⟩
  have hd4 : d < 4294967296 := by omega
  have he : d + y + b = x + 4294967296 * b' := by
    rw [hb']; split <;> omega
  refine ⟨d, b', ?_, rfl, hd4, by rw [hb']; split <;> omega, he⟩
  refine congrArg Ending.returned (congrArg Value.tuple ?_)
  show #[Value.int .u32 _, Value.int .u32 _] = _
  have hxy : x ^^^ y < 4294967296 := Nat.xor_lt_two_pow (n := 32) hx hy
  rw [← hd, u32_xor_nat x y hx hy, not_u32 x hx, not_u32 _ hxy, u32_and_nat _ _ (by omega) hy, u32_and_nat _ _ (by omega) hd4,
    u32_or_nat _ _ (Nat.and_lt_two_pow (n := 32) _ hy) (Nat.and_lt_two_pow (n := 32) _ hd4)]
  have hbr := borrow_bits x y d b b' hx hy hd4 hb he
  rw [← hbr]
  rfl

/-! ### take -/
def TakePost (g off n : Nat) (L Y : List Int) (w : World) (e : Ending) (w' : World) : Prop :=
  ∃ (b : Nat) (L' : List Int), e = .returned (.int .u32 (b : Int)) ∧ b ≤ 1 ∧ Blk w' g .u32 36 L' ∧ U32 L' ∧ L'.length = L.length ∧ (∀ j, j < off ∨ off + n ≤ j → nth L' j = nth L j) ∧
    val (sub L' off n) + val (Y.take n) = val (sub L off n) + R ^ n * b ∧ w.grownBy w' (some g)

set_option maxHeartbeats 1000000 in
theorem take_c (g off n cap : Nat) (L : List Int) (ay : Option Addr) (cy : Nat) (Y : List Int) (w : World) (hB : Blk w g .u32 36 L) (uL : U32 L) (hn : off + n ≤ L.length) (hcap : n ≤ cap)
    (hy : Sl .u32 w ay cy Y) (uY : U32 Y) (hap : ∀ b o, ay = some ⟨b, o, none⟩ → 0 < Y.length → b ≠ g) (hmax : L.length ≤ 4611686018427387904) :
    Calls Tryd.prog 130 #[.slice (some ⟨g, off, none⟩) n cap, .slice ay Y.length cy] w (TakePost g off n L Y w) := by
  have hym := Nat.le_trans hy.le hy.max
  go_enter Tryd.func130, Tryd.ntmps130
  go_wp2_with fail
  go_loopw [5, 10] (fun bv t wr => ∃ (i b : Nat) (L' : List Int), i ≤ n ∧ t = .int .i64 (i : Int) ∧ bv = .int .u32 (b : Int) ∧ b ≤ 1 ∧ Blk wr g .u32 36 L' ∧ U32 L' ∧ L'.length = L.length ∧
      (∀ j, j < off ∨ off + i ≤ j → nth L' j = nth L j) ∧ val (sub L' off i) + val (Y.take i) = val (sub L off i) + R ^ i * b ∧ w.grownBy wr (some g))
    (fun _ t _ => n - (intOf t).toNat)
  case atStart => exact ⟨0, 0, L, by omega, rfl, rfl, by omega, hB, uL, rfl, fun _ _ => rfl, by simp [sub, val], rfl, rfl, rfl, Nat.le_refl _, fun _ _ _ => rfl⟩
  case round =>
    obtain ⟨i, b, L', hi, rfl, rfl, hb1, hB', uL', hlen, hout, hval, hgr⟩ := hrel
    have HL := Lib.hid hlen
    have HO := Lib.hid hout
    have HV := Lib.hid hval
    clear hlen hout hval
    by_cases hlt : i < n
    · have hcl := hB'.cell (off + i) (by have := HL.out; omega)
      have hfr := hB'.free (off + i)
      have hx := uL' (off + i)
      have hxl := lb_lt uL' (off + i)
      have hxc := lb_cast uL' (off + i)
      have hyl := lb_lt uY i
      have hyc := lb_cast uY i
      have HYC := Lib.hid hyc
      have he : nth L' (off + i) = nth L (off + i) := HO.out _ (by omega)
      have HE := Lib.hid he
      rw [← hxc] at hcl
      have HXC := Lib.hid hxc
      clear he hxc hyc
      have fin : ∀ (d b' : Nat), d < R → b' ≤ 1 → d + lb Y i + b = lb L' (off + i) + R * b' →
          Blk (wr.setCell ⟨g, off + i, none⟩ (.int .u32 (d : Int))) g .u32 36 (L'.set (off + i) d) ∧ U32 (L'.set (off + i) (d : Int)) ∧ (L'.set (off + i) (d : Int)).length = L.length ∧
          (∀ j, j < off ∨ off + (i + 1) ≤ j → nth (L'.set (off + i) (d : Int)) j = nth L j) ∧
          val (sub (L'.set (off + i) (d : Int)) off (i + 1)) + val (Y.take (i + 1)) = val (sub L off (i + 1)) + R ^ (i + 1) * b' ∧ w.grownBy (wr.setCell ⟨g, off + i, none⟩ (.int .u32 (d : Int))) (some g) := by
        intro d b' hd hb' hdd
        have hil : off + i < L'.length := by have := HL.out; omega
        refine ⟨hB'.set _ _, uL'.set _ (by omega) (by unfold R at hd; omega), by simpa using HL.out, fun j hj => ?_, ?_, grownBy_trans hgr (grownBy_set _ _ _)⟩
        · rw [nth_set _ _ _ _ hil, if_neg (by omega)]
          exact HO.out j (by omega)
        · rw [val_sub_next, sub_set _ _ _ _ hil, val_take_next, val_sub_next L, Rpow_next]
          have e1 : lb (L'.set (off + i) (d : Int)) (off + i) = d := by rw [lb, nth_set _ _ _ _ hil, if_pos rfl]; rfl
          have e2 : lb L (off + i) = lb L' (off + i) := by rw [lb, lb, HE.out]
          rw [e1, e2]
          exact sub_step HV.out hdd
      have FIN := Lib.hid fin
      clear fin
      by_cases hin : i < Y.length
      · obtain ⟨by_, oy, rfl, hcc⟩ := hy.cells (by omega)
        have hne := hap by_ oy rfl (by omega)
        have hcy : wr.cell? ⟨by_, oy + i, none⟩ = some (.int .u32 ((lb Y i : Nat) : Int)) := by
          rw [HYC.out, World.cell?_of_block (w := w) (hgr.block by_ (World.block_lt_of_cell? w _ (hcc i hin)) (by simpa using hne))]
          exact hcc i hin
        clear hcc
        go_wp2_with fail
        refine (Sub32_c _ _ _ _ hxl hyl hb1).mono ?_; rintro e w' ⟨d, b', rfl, rfl, hd, hb', hdd⟩
        have F := Lib.hid (FIN.out d b' hd hb' hdd)
        clear hdd
        go_wp2_with fail
        go_roundw
        case rel =>
          obtain ⟨f1, f2, f3, f4, f5, f6⟩ := F.out
          exact ⟨i + 1, b', _, by omega, by go_num, rfl, hb', f1, f2, f3, f4, f5, f6⟩
        case measure => simp [intOf]; omega
      · have h0 : lb Y i = 0 := by rw [lb, nth_out _ _ (by omega)]; rfl
        have H0 := Lib.hid h0
        clear h0
        go_wp2_with fail
        have hs := Sub32_c (lb L' (off + i)) 0 b wr hxl (by decide) hb1
        refine hs.mono ?_; rintro e w' ⟨d, b', rfl, rfl, hd, hb', hdd⟩
        have F := Lib.hid (FIN.out d b' hd hb' (by rw [H0.out]; exact hdd))
        clear hdd hs
        go_wp2_with fail
        go_roundw
        case rel =>
          obtain ⟨f1, f2, f3, f4, f5, f6⟩ := F.out
          exact ⟨i + 1, b', _, by omega, by go_num, rfl, hb', f1, f2, f3, f4, f5, f6⟩
        case measure => simp [intOf]; omega
    · obtain rfl : i = n := by omega
      go_wp2_with fail
      go_ret
      exact ⟨b, L', rfl, hb1, hB', uL', HL.out, HO.out, HV.out, hgr⟩
end Go.Proofs.YtlolkighnnedfaaDoor
/- signetref6: limb, Proper, FromBytes, Cmp, Bits, Bit, by their contracts. -/
set_option linter.unusedVariables false
set_option linter.unusedSimpArgs false
namespace Go.Proofs.YtlolkighnnedfaaDoor
open Go.RowKit Go.Sg

/-- New memory that reads as these numbers. -/
def RowPost (k : IntKind) (E : TypeId) (xs : List Int) (w : World) (e : Ending) (w' : World) : Prop := ∃ v, e = .returned v ∧ New w.heap.size k E w' v xs ∧ Below w.heap.size w w'

end Go.Proofs.YtlolkighnnedfaaDoor
/- signetref6: FromBytes, Cmp, Bits, Bit, by their contracts. -/
set_option linter.unusedVariables false
set_option linter.unusedSimpArgs false
namespace Go.Proofs.YtlolkighnnedfaaDoor
open Go.RowKit Go.Sg

/-- Bytes i - 4 .. i - 4 + t, those that there are. -/
def seg (bs : List Int) (i t : Nat) : List Int := (bs.take (i + t - 4)).drop (i - 4)
theorem seg_zero (bs : List Int) (i : Nat) : seg bs i 0 = [] := by
  apply List.eq_nil_of_length_eq_zero; simp [seg]
theorem seg_skip (bs : List Int) (i t : Nat) (h : i + t < 4) : seg bs i (t + 1) = seg bs i t := by
  unfold seg; rw [show i + (t + 1) - 4 = i + t - 4 by omega]
theorem seg_snoc (bs : List Int) (i t : Nat) (h : 4 ≤ i + t) (hl : i + t - 4 < bs.length) : seg bs i (t + 1) = seg bs i t ++ [nth bs (i + t - 4)] := by
  unfold seg
  rw [show i + (t + 1) - 4 = (i + t - 4) + 1 by omega, take_succ_nth _ _ hl, List.drop_append_of_le_length (by simp; omega)]
theorem seg_len (bs : List Int) (i t : Nat) (h : t ≤ 4) : (seg bs i t).length ≤ t := by simp [seg]; omega
theorem seg_full (bs : List Int) (i : Nat) : seg bs i 4 = (bs.take i).drop (i - 4) := by unfold seg; rw [show i + 4 - 4 = i by omega]
theorem bval_drop (bs : List Int) (i : Nat) (hi : i ≤ bs.length) : bval (bs.drop (i - 4)) = bval (seg bs i 4) * 256 ^ (bs.length - i) + bval (bs.drop i) := by
  have e : bs.drop (i - 4) = seg bs i 4 ++ bs.drop i := by
    rw [seg_full]
    conv => lhs; rw [← List.take_append_drop i bs]
    rw [List.drop_append_of_le_length (by simp; omega)]
  rw [e, bval_append, List.length_drop]
theorem bval_seg_lt {bs : List Int} (ub : U8 bs) (i t : Nat) (h : t ≤ 4) : bval (seg bs i t) < 256 ^ t := by
  have h1 : U8 (seg bs i t) := (ub.take (by omega) _).drop (by omega) _
  exact Nat.lt_of_lt_of_le (bval_lt h1) (Nat.pow_le_pow_right (by decide) (seg_len bs i t h))

theorem val_pad (xs : List Int) (m : Nat) : val (xs ++ List.replicate m 0) = val xs := by rw [val_append, val_zeros]; omega
theorem nth_pad (xs : List Int) (m i : Nat) : nth (xs ++ List.replicate m 0) i = nth xs i := by
  by_cases h : i < xs.length
  · exact nth_append_left _ _ _ h
  · obtain ⟨j, rfl⟩ : ∃ j, i = xs.length + j := ⟨i - xs.length, by omega⟩
    rw [nth_append_right, nth_replicate0, nth_out _ _ (by omega)]
theorem u32_pad {xs : List Int} (h : U32 xs) (m : Nat) : U32 (xs ++ List.replicate m 0) := fun i => by rw [nth_pad]; exact h i
/-- The same limbs from k on, whatever the lengths. -/
def Above (xs ys : List Int) (k : Nat) : Prop := ∀ j, k ≤ j → nth xs j = nth ys j
theorem Above.start (xs ys : List Int) (n : Nat) (h1 : xs.length ≤ n) (h2 : ys.length ≤ n) : Above xs ys n := fun j hj => by rw [nth_out _ _ (by omega), nth_out _ _ (by omega)]
theorem Above.step {xs ys : List Int} {k : Nat} (h : Above xs ys (k + 1)) (e : nth xs k = nth ys k) : Above xs ys k := fun j hj => by
  by_cases hk : j = k
  · rw [hk]; exact e
  · exact h j (by omega)
theorem Above.eq {xs ys : List Int} (ux : U32 xs) (uy : U32 ys) (h : Above xs ys 0) : val xs = val ys := by
  rw [← val_pad xs ys.length, ← val_pad ys xs.length]
  congr 1
  apply ext_nth
  · simp; omega
  · intro i _
    rw [nth_pad, nth_pad]
    exact h i (by omega)
theorem Above.lt {xs ys : List Int} (ux : U32 xs) {k : Nat} (h : Above xs ys (k + 1)) (hlt : nth xs k < nth ys k) : val xs < val ys := by
  rw [← val_pad xs (ys.length + k + 1), ← val_pad ys (xs.length + k + 1)]
  apply top_lt (u32_pad ux _) k (by simp; omega) (by simp; omega)
  · apply ext_nth
    · simp; omega
    · intro i _
      rw [nth_drop, nth_drop, nth_pad, nth_pad]
      exact h _ (by omega)
  · rw [nth_pad, nth_pad]; exact hlt

def RCmpPost (r : Int) (w : World) (e : Ending) (w' : World) : Prop := e = .returned (.int .i64 r) ∧ w = w'

theorem bl_half (x : Nat) (h : x ≠ 0) : bl x = 1 + bl (x / 2) := by
  by_cases h1 : x / 2 = 0
  · obtain rfl : x = 1 := by omega
    decide
  · have e := bl_add_low (x / 2) 1 (x % 2) h1 (by omega)
    rw [show x % 2 + 2 ^ 1 * (x / 2) = x by omega] at e
    omega
def IntPost (n : Int) (w : World) (e : Ending) (w' : World) : Prop := e = .returned (.int .i64 n) ∧ Below w.heap.size w w'

/-- A bit of a number. -/
def bitB (n : Nat) (i : Int) : Bool := decide (0 ≤ i ∧ n / 2 ^ i.toNat % 2 = 1)
theorem bit_limb {zs : List Int} (uz : U32 zs) (i : Nat) : val zs / 2 ^ i % 2 = lb zs (i / 32) / 2 ^ (i % 32) % 2 := by
  by_cases h : i / 32 < zs.length
  · have e1 := val_split zs (i / 32) (by omega)
    have e2 := val_drop zs (i / 32) h
    have h1 := val_take_lt uz (i / 32) (by omega)
    have h3 : 2 ^ i = R ^ (i / 32) * 2 ^ (i % 32) := by rw [Rpow_two, ← Nat.pow_add]; congr 1; omega
    rw [e2] at e1
    rw [h3, ← Nat.div_div_eq_div_mul, e1, Nat.add_mul_div_left _ _ (Rpow_pos _), Nat.div_eq_of_lt h1, Nat.zero_add]
    have h4 : R = 2 ^ (i % 32) * (2 * 2 ^ (31 - i % 32)) := by
      rw [← Nat.pow_succ', ← Nat.pow_add, show i % 32 + (31 - i % 32 + 1) = 32 by omega]; rfl
    rw [h4, Nat.mul_assoc, Nat.add_mul_div_left _ _ (Nat.two_pow_pos _), Nat.mul_assoc, Nat.add_mul_mod_self_left]
  · rw [lb, nth_out _ _ (by omega)]
    have h1 := val_lt uz
    have h2 : R ^ zs.length ≤ 2 ^ i := by rw [Rpow_two]; exact Nat.pow_le_pow_right (by decide) (by omega)
    rw [Nat.div_eq_of_lt (by omega)]
    simp
end Go.Proofs.YtlolkighnnedfaaDoor
/- signetref6.Bit, nat.Bit, by their contracts. -/
set_option linter.unusedVariables false
set_option linter.unusedSimpArgs false
namespace Go.Proofs.YtlolkighnnedfaaDoor
open Go.RowKit Go.Sg


theorem bitB_neg (n : Nat) (i : Int) (h : i < 0) : bitB n i = false := decide_eq_false fun hh => by omega
theorem bitB_nat (zs : List Int) (uz : U32 zs) (i : Nat) : bitB (val zs) (i : Int) = decide (lb zs (i / 32) / 2 ^ (i % 32) % 2 = 1) := by
  unfold bitB
  rw [Int.toNat_natCast, bit_limb uz]
  exact decide_eq_decide.2 ⟨fun h => h.2, fun h => ⟨by omega, h⟩⟩
theorem bitB_out (zs : List Int) (uz : U32 zs) (i : Nat) (h : zs.length ≤ i / 32) : bitB (val zs) (i : Int) = false := by
  rw [bitB_nat _ uz, lb, nth_out _ _ h]; simp

set_option maxHeartbeats 1000000 in
theorem Bit_c (a : Option Addr) (cap : Nat) (zs : List Int) (i : Int) (w : World) (hc : Sl .u32 w a cap zs) (ux : U32 zs) (hi : -9223372036854775808 ≤ i ∧ i ≤ 9223372036854775807) :
    Calls Tryd.prog 61 #[.slice a zs.length cap, .int .i64 i] w (BoolPost (bitB (val zs) i) w) := by
  have hm := hc.max
  obtain ⟨i1, i2⟩ := hi
  by_cases hneg : i < 0
  · have hb := Lib.hid (bitB_neg (val zs) i hneg)
    go_enter Tryd.func61, Tryd.ntmps61
    go_wp2
    go_ret
    exact ⟨by rw [hb.out]; rfl, .refl _⟩
  · obtain ⟨n, rfl⟩ := Int.eq_ofNat_of_zero_le (show 0 ≤ i by omega)
    have h0 : (0 : Int) ≤ (n : Int) := by omega
    by_cases hlen : zs.length ≤ n / 32
    · have hb := Lib.hid (bitB_out zs ux n hlen)
      have h3 : ¬ (n : Int) / 32 < (zs.length : Int) := by omega
      go_enter Tryd.func61, Tryd.ntmps61
      go_wp2_with fail
      go_ret
      exact ⟨by rw [hb.out]; rfl, .refl _⟩
    · have hb := Lib.hid (bitB_nat zs ux n)
      have h3 : (n : Int) / 32 < (zs.length : Int) := by omega
      obtain ⟨b, off, rfl, hcc⟩ := hc.cells (by omega)
      have hcell := hcc (n / 32) (by omega)
      have hbx := ux (n / 32)
      have hlt : n / 32 < zs.length := by omega
      have hlb := Lib.hid (show nth zs (n / 32) = ((lb zs (n / 32) : Nat) : Int) from (lb_cast ux _).symm)
      have hlr := Lib.hid (lb_lt ux (n / 32))
      clear hcc
      go_enter Tryd.func61, Tryd.ntmps61
      go_wp2_with fail
      go_ret
      refine ⟨?_, .refl _⟩
      rw [hb.out]
      refine congrArg Ending.returned (congrArg Value.bool ?_)
      have hr := hlr.out
      unfold R at hr
      have e : ((lb zs (n / 32) : Nat) : Int) / 2 ^ (n % 32) = ((lb zs (n / 32) / 2 ^ (n % 32) : Nat) : Int) := by rw [Int.natCast_ediv, Int.natCast_pow]; rfl
      have hd : lb zs (n / 32) / 2 ^ (n % 32) < 4294967296 := Nat.lt_of_le_of_lt (Nat.div_le_self _ _) hr
      rw [hlb.out, e, show (1 : Int) = ((1 : Nat) : Int) from rfl, u32_and_nat _ _ hd (by omega), nat_mask1, Bool.eq_iff_iff]
      simp
      omega
end Go.Proofs.YtlolkighnnedfaaDoor
