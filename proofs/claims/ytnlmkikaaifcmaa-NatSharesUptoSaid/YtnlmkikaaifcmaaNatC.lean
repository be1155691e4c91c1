/- math/bits.Sub32; nat.take, Add, Mul, by their contracts. -/
import Derived.Test.YtnlmkikaaifcmaaNatB
import Derived.Test.YtnlmkikaaifcmaaNumB
set_option linter.unusedVariables false
set_option linter.unusedSimpArgs false
namespace Go.Proofs.Ytnlmkikaaifcmaa
open Go.RowKit Go.Sg

theorem tb31 (x : Nat) (h : x < 4294967296) : x / 2147483648 = (x.testBit 31).toNat := by
  rw [Nat.testBit_eq_decide_div_mod_eq]
  have e : x / 2 ^ 31 % 2 = x / 2147483648 := by
    rw [show (2 : Nat) ^ 31 = 2147483648 from rfl]; omega
  rw [e]
  rcases (show x / 2147483648 = 0 ∨ x / 2147483648 = 1 by omega) with h | h <;> rw [h] <;> rfl
theorem tb31' (x : Nat) (h : x < 4294967296) : x.testBit 31 = decide (2147483648 ≤ x) := by
  rw [Nat.testBit_eq_decide_div_mod_eq]
  apply decide_eq_decide.2
  rw [show (2 : Nat) ^ 31 = 2147483648 from rfl]; omega
/-- What Sub32 borrows. -/
theorem borrow_bits (x y d b b' : Nat) (hx : x < 4294967296) (hy : y < 4294967296) (hd : d < 4294967296) (hb : b ≤ 1) (h : d + y + b = x + 4294967296 * b') :
    (((4294967295 - x) &&& y) ||| ((4294967295 - (x ^^^ y)) &&& d)) / 2147483648 = b' := by
  have hxy : x ^^^ y < 4294967296 := Nat.xor_lt_two_pow (n := 32) hx hy
  have n1 : ∀ z, z < 4294967296 → (4294967295 - z).testBit 31 = !(z.testBit 31) := by
    intro z hz
    rw [tb31' _ (by omega), tb31' z hz]
    by_cases h : 2147483648 ≤ z
    · rw [decide_eq_true h, decide_eq_false (by omega)]; rfl
    · rw [decide_eq_false h, decide_eq_true (by omega)]; rfl
  have hlt : (((4294967295 - x) &&& y) ||| ((4294967295 - (x ^^^ y)) &&& d)) < 4294967296 :=
    Nat.or_lt_two_pow (n := 32) (Nat.and_lt_two_pow _ hy) (Nat.and_lt_two_pow _ hd)
  rw [tb31 _ hlt, Nat.testBit_or, Nat.testBit_and, Nat.testBit_and, n1 x hx, n1 _ hxy, Nat.testBit_xor, tb31' x hx, tb31' y hy, tb31' d hd]
  by_cases h1 : 2147483648 ≤ x <;> by_cases h2 : 2147483648 ≤ y <;> by_cases h3 : 2147483648 ≤ d <;> simp [h1, h2, h3] <;> omega

theorem xor_all (x : Nat) (h : x < 4294967296) : 4294967295 ^^^ x = 4294967295 - x := by
  apply Nat.eq_of_testBit_eq
  intro i
  rw [Nat.testBit_xor, show 4294967295 - x = 2 ^ 32 - (x + 1) by omega, Nat.testBit_two_pow_sub_succ (show x < 2 ^ 32 from h), show (4294967295 : Nat) = 2 ^ 32 - 1 from rfl, Nat.testBit_two_pow_sub_one]
  by_cases hi : i < 32
  · simp [hi]
  · have : x.testBit i = false := Nat.testBit_lt_two_pow (Nat.lt_of_lt_of_le h (Nat.pow_le_pow_right (n := 2) (by decide) (show 32 ≤ i by omega)))
    simp [hi, this]
theorem not_u32 (x : Nat) (h : x < 4294967296) : bits .xor .u32 IntKind.u32.max (x : Int) = ((4294967295 - x : Nat) : Int) := by
  rw [show IntKind.u32.max = ((4294967295 : Nat) : Int) from rfl, u32_xor_nat _ _ (by omega) h, xor_all x h]

/-- d + y + b = x + 2^32 b'. -/
def Sub32Post (x y b : Nat) (w : World) (e : Ending) (w' : World) : Prop :=
  ∃ d b' : Nat, e = .returned (.tuple #[.int .u32 (d : Int), .int .u32 (b' : Int)]) ∧ w = w' ∧ d < R ∧ b' ≤ 1 ∧ d + y + b = x + R * b'

set_option maxHeartbeats 1000000 in
theorem Sub32_c (x y b : Nat) (w : World) (hx : x < R) (hy : y < R) (hb : b ≤ 1) :
    Calls Try.prog 42 #[.int .u32 (x : Int), .int .u32 (y : Int), .int .u32 (b : Int)] w (Sub32Post x y b w) := by
  unfold R at hx hy
  have hxx : (x : Int) ≤ 4294967295 := by omega
  have hyy : (y : Int) ≤ 4294967295 := by omega
  have hbb : (b : Int) ≤ 1 := by omega
  go_enter Try.func42, Try.ntmps42
  go_wp2
  go_ret2
  obtain ⟨d, hd⟩ : ∃ d : Nat, (d : Int) = ((x : Int) - y - b) % 4294967296 := ⟨(((x : Int) - y - b) % 4294967296).toNat, by omega⟩
  obtain ⟨b', hb'⟩ : ∃ b' : Nat, b' = if x < y + b then 1 else 0 := ⟨_, rfl⟩
  have hd4 : d < 4294967296 := by omega
  have he : d + y + b = x + 4294967296 * b' := by
    rw [hb']; split <;> omega
  refine ⟨d, b', ?_, rfl, hd4, by rw [hb']; split <;> omega, he⟩
  refine congrArg Ending.returned (congrArg Value.tuple ?_)
  show #[Value.int .u32 _, Value.int .u32 _] = _
  have hxy : x ^^^ y < 4294967296 := Nat.xor_lt_two_pow (n := 32) hx hy
  rw [← hd, u32_xor_nat x y hx hy, not_u32 x hx, not_u32 _ hxy, u32_and_nat _ _ (by omega) hy, u32_and_nat _ _ (by omega) hd4,
    u32_or_nat _ _ (Nat.and_lt_two_pow (n := 32) _ hy) (Nat.and_lt_two_pow (n := 32) _ hd4)]
  have hbr := borrow_bits x y d b b' hx hy hd4 hb he
  rw [← hbr]
  rfl

/-! ### take -/
def TakePost (g off n : Nat) (L Y : List Int) (w : World) (e : Ending) (w' : World) : Prop :=
  ∃ (b : Nat) (L' : List Int), e = .returned (.int .u32 (b : Int)) ∧ b ≤ 1 ∧ Blk w' g .u32 25 L' ∧ U32 L' ∧ L'.length = L.length ∧ (∀ j, j < off ∨ off + n ≤ j → nth L' j = nth L j) ∧
    val (sub L' off n) + val (Y.take n) = val (sub L off n) + R ^ n * b ∧ w.grownBy w' (some g)

set_option maxHeartbeats 1000000 in
theorem take_c (g off n cap : Nat) (L : List Int) (ay : Option Addr) (cy : Nat) (Y : List Int) (w : World) (hB : Blk w g .u32 25 L) (uL : U32 L) (hn : off + n ≤ L.length) (hcap : n ≤ cap)
    (hy : Sl .u32 w ay cy Y) (uY : U32 Y) (hap : ∀ b o, ay = some ⟨b, o, none⟩ → 0 < Y.length → b ≠ g) (hmax : L.length ≤ 4611686018427387904) :
    Calls Try.prog 34 #[.slice (some ⟨g, off, none⟩) n cap, .slice ay Y.length cy] w (TakePost g off n L Y w) := by
  have hym := Nat.le_trans hy.le hy.max
  go_enter Try.func34, Try.ntmps34
  go_wp2_with fail
  go_loopw [5, 10] (fun bv t wr => ∃ (i b : Nat) (L' : List Int), i ≤ n ∧ t = .int .i64 (i : Int) ∧ bv = .int .u32 (b : Int) ∧ b ≤ 1 ∧ Blk wr g .u32 25 L' ∧ U32 L' ∧ L'.length = L.length ∧
      (∀ j, j < off ∨ off + i ≤ j → nth L' j = nth L j) ∧ val (sub L' off i) + val (Y.take i) = val (sub L off i) + R ^ i * b ∧ w.grownBy wr (some g))
    (fun _ t _ => n - (intOf t).toNat)
  case atStart => exact ⟨0, 0, L, by omega, rfl, rfl, by omega, hB, uL, rfl, fun _ _ => rfl, by simp [sub, val], rfl, rfl, rfl, Nat.le_refl _, fun _ _ _ => rfl⟩
  case round =>
    obtain ⟨i, b, L', hi, rfl, rfl, hb1, hB', uL', hlen, hout, hval, hgr⟩ := hrel
    have HL := Lib.hid hlen
    have HO := Lib.hid hout
    have HV := Lib.hid hval
    clear hlen hout hval
    by_cases hlt : i < n
    · have hcl := hB'.cell (off + i) (by have := HL.out; omega)
      have hfr := hB'.free (off + i)
      have hx := uL' (off + i)
      have hxl := lb_lt uL' (off + i)
      have hxc := lb_cast uL' (off + i)
      have hyl := lb_lt uY i
      have hyc := lb_cast uY i
      have HYC := Lib.hid hyc
      have he : nth L' (off + i) = nth L (off + i) := HO.out _ (by omega)
      have HE := Lib.hid he
      rw [← hxc] at hcl
      have HXC := Lib.hid hxc
      clear he hxc hyc
      have fin : ∀ (d b' : Nat), d < R → b' ≤ 1 → d + lb Y i + b = lb L' (off + i) + R * b' →
          Blk (wr.setCell ⟨g, off + i, none⟩ (.int .u32 (d : Int))) g .u32 25 (L'.set (off + i) d) ∧ U32 (L'.set (off + i) (d : Int)) ∧ (L'.set (off + i) (d : Int)).length = L.length ∧
          (∀ j, j < off ∨ off + (i + 1) ≤ j → nth (L'.set (off + i) (d : Int)) j = nth L j) ∧
          val (sub (L'.set (off + i) (d : Int)) off (i + 1)) + val (Y.take (i + 1)) = val (sub L off (i + 1)) + R ^ (i + 1) * b' ∧ w.grownBy (wr.setCell ⟨g, off + i, none⟩ (.int .u32 (d : Int))) (some g) := by
        intro d b' hd hb' hdd
        have hil : off + i < L'.length := by have := HL.out; omega
        refine ⟨hB'.set _ _, uL'.set _ (by omega) (by unfold R at hd; omega), by simpa using HL.out, fun j hj => ?_, ?_, grownBy_trans hgr (grownBy_set _ _ _)⟩
        · rw [nth_set _ _ _ _ hil, if_neg (by omega)]
          exact HO.out j (by omega)
        · rw [val_sub_next, sub_set _ _ _ _ hil, val_take_next, val_sub_next L, Rpow_next]
          have e1 : lb (L'.set (off + i) (d : Int)) (off + i) = d := by rw [lb, nth_set _ _ _ _ hil, if_pos rfl]; rfl
          have e2 : lb L (off + i) = lb L' (off + i) := by rw [lb, lb, HE.out]
          rw [e1, e2]
          exact sub_step HV.out hdd
      have FIN := Lib.hid fin
      clear fin
      by_cases hin : i < Y.length
      · obtain ⟨by_, oy, rfl, hcc⟩ := hy.cells (by omega)
        have hne := hap by_ oy rfl (by omega)
        have hcy : wr.cell? ⟨by_, oy + i, none⟩ = some (.int .u32 ((lb Y i : Nat) : Int)) := by
          rw [HYC.out, World.cell?_of_block (w := w) (hgr.block by_ (World.block_lt_of_cell? w _ (hcc i hin)) (by simpa using hne))]
          exact hcc i hin
        clear hcc
        go_wp2_with fail
        refine (Sub32_c _ _ _ _ hxl hyl hb1).mono ?_; rintro e w' ⟨d, b', rfl, rfl, hd, hb', hdd⟩
        have F := Lib.hid (FIN.out d b' hd hb' hdd)
        clear hdd
        go_wp2_with fail
        go_roundw
        case rel =>
          obtain ⟨f1, f2, f3, f4, f5, f6⟩ := F.out
          exact ⟨i + 1, b', _, by omega, by go_num, rfl, hb', f1, f2, f3, f4, f5, f6⟩
        case measure => simp [intOf]; omega
      · have h0 : lb Y i = 0 := by rw [lb, nth_out _ _ (by omega)]; rfl
        have H0 := Lib.hid h0
        clear h0
        go_wp2_with fail
        have hs := Sub32_c (lb L' (off + i)) 0 b wr hxl (by decide) hb1
        refine hs.mono ?_; rintro e w' ⟨d, b', rfl, rfl, hd, hb', hdd⟩
        have F := Lib.hid (FIN.out d b' hd hb' (by rw [H0.out]; exact hdd))
        clear hdd hs
        go_wp2_with fail
        go_roundw
        case rel =>
          obtain ⟨f1, f2, f3, f4, f5, f6⟩ := F.out
          exact ⟨i + 1, b', _, by omega, by go_num, rfl, hb', f1, f2, f3, f4, f5, f6⟩
        case measure => simp [intOf]; omega
    · obtain rfl : i = n := by omega
      go_wp2_with fail
      go_ret
      exact ⟨b, L', rfl, hb1, hB', uL', HL.out, HO.out, HV.out, hgr⟩
end Go.Proofs.Ytnlmkikaaifcmaa
