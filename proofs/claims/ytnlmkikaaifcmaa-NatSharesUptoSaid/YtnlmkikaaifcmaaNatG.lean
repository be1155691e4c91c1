/- nat.short, up, down, by their contracts. -/
import Derived.Test.YtnlmkikaaifcmaaNatF
set_option linter.unusedVariables false
set_option linter.unusedSimpArgs false
namespace Go.Proofs.Ytnlmkikaaifcmaa
open Go.RowKit Go.Sg

theorem drop_set_at (L : List Int) (i : Nat) (v : Int) (h : i < L.length) : (L.set i v).drop i = v :: L.drop (i + 1) := by
  rw [drop_nth _ _ (by simpa using h), nth_set _ _ _ _ h, if_pos rfl, List.drop_set_of_lt (by omega)]

def ShortPost (x : List Int) (d : Nat) (w : World) (e : Ending) (w' : World) : Prop :=
  ∃ (g : Nat) (L : List Int) (r : Nat), e = .returned (.tuple #[.slice (some ⟨g, 0, none⟩) x.length x.length, .int .u32 (r : Int)]) ∧ w.heap.size ≤ g ∧ Blk w' g .u32 25 L ∧ L.length = x.length ∧ U32 L ∧ val x = d * val L + r ∧ r < d ∧ Below w.heap.size w w'

set_option maxHeartbeats 1000000 in
theorem nshort_c (a : Option Addr) (cap : Nat) (x : List Int) (d : Nat) (w : World) (hx : Sl .u32 w a cap x) (ux : U32 x) (hd : d < R) (hd0 : 0 < d) (hl : x.length ≤ 35184372088832) :
    Calls Try.prog 31 #[.slice a x.length cap, .int .u32 (d : Int)] w (ShortPost x d w) := by
  go_enter Try.func31, Try.ntmps31
  go_wp2_with (at_make; refine wpList_make_blk _ rfl _ _ 22 rfl 25 .u32 4 Try.underlying22 info32 x.length _ _ rfl rfl rfl rfl (by omega) (by omega) ?_)
  intro w1 hk1 hs1 hb1
  have HS := Lib.hid hs1
  clear hs1
  go_wp2_with fail
  go_loopw [7, 8] (fun rv t wr => ∃ (j r : Nat) (L : List Int), j ≤ x.length ∧ t = .int .i64 ((j : Int) - 1) ∧ rv = .int .u32 (r : Int) ∧ r < d ∧ Blk wr w.heap.size .u32 25 L ∧ L.length = x.length ∧ U32 L ∧
      val (x.drop j) = d * val (L.drop j) + r ∧ Below w.heap.size w wr)
    (fun _ t _ => (intOf t + 1).toNat)
  case atStart => exact ⟨x.length, 0, _, by omega, by go_num, rfl, hd0, hk1, by simp, .zeros (by omega) _, by rw [List.drop_length, List.drop_of_length_le (by simp)]; simp [val], hb1⟩
  case round =>
    obtain ⟨j, r, L, hj, rfl, rfl, hr, hL, hLl, uL, hval, hb⟩ := hrel
    have HL := Lib.hid hLl
    have HV := Lib.hid hval
    clear hLl hval
    by_cases h0 : 0 < j
    · obtain ⟨i, rfl⟩ : ∃ i, j = i + 1 := ⟨j - 1, by omega⟩
      obtain ⟨bx, ox, rfl, hcc⟩ := hx.cells (by omega)
      have hcx := (hb.cell (World.block_lt_of_cell? w _ (hcc i (by omega)))).trans (hcc i (by omega))
      have XC := Lib.hid (lb_cast ux i)
      rw [← XC.out] at hcx
      have hxl := lb_lt ux i
      have hj3 : (((i + 1 : Nat) : Int) - 1) = (i : Int) := by omega
      rw [hj3]
      have HJ := Lib.hid hj3
      have hiL : i < L.length := by have := HL.out; omega
      obtain ⟨q, hq⟩ : ∃ q, q = (R * r + lb x i) / d := ⟨_, rfl⟩
      obtain ⟨r', hr'⟩ : ∃ r', r' = (R * r + lb x i) % d := ⟨_, rfl⟩
      have hq32 : q < R := by
        rw [hq, Nat.div_lt_iff_lt_mul hd0]
        have : R * (r + 1) ≤ R * d := Nat.mul_le_mul_left R hr
        rw [Nat.mul_add] at this; omega
      have hr'd : r' < d := by rw [hr']; exact Nat.mod_lt _ hd0
      have hqr : d * q + r' = R * r + lb x i := by rw [hq, hr']; exact Nat.div_add_mod _ _
      have hcl := hL.cell i hiL
      have hfr := hL.free i
      have hL' := hL.set i (q : Int)
      have uL' : U32 (L.set i (q : Int)) := uL.set _ (by omega) (by unfold R at hq32; omega)
      have fin : Hid (val (x.drop i) = d * val ((L.set i (q : Int)).drop i) + r') := Lib.hid (by
        rw [drop_set_at _ _ _ hiL, val, Int.toNat_natCast, val_drop x i (by omega), HV.out, Nat.mul_add, Nat.mul_add, Nat.mul_left_comm R d]
        omega)
      have hlen' : Hid ((L.set i (q : Int)).length = x.length) := Lib.hid (by have := HL.out; simpa using this)
      have hbk := hb.setCell (p := ⟨w.heap.size, i, none⟩) (Nat.le_refl _) (.int .u32 (q : Int))
      have hi0 : (0 : Int) ≤ (i : Int) := by omega
      have hix : i < x.length := by omega
      have HQ := Lib.hid hq
      have HR := Lib.hid hr'
      clear hcc hj3 h0 hqr hq hr' hiL
      go_wp2_with fail
      refine (Div32_c _ _ _ _ hxl hd hr).mono ?_; rintro e w' ⟨rfl, nd, rfl⟩
      rw [← HQ.out, ← HR.out]
      go_wp2_with fail
      go_roundw
      case rel =>
        exact ⟨i, r', _, by omega, by go_num, rfl, hr'd, hL', hlen'.out, uL', fin.out, below_drewN hbk nd⟩
      case measure => simp [intOf]
    · obtain rfl : j = 0 := by omega
      clear h0 hj
      rw [show (((0 : Nat) : Int) - 1) = -1 from rfl]
      go_wp2_with fail
      go_ret2
      have := HV.out
      simp only [List.drop_zero] at this
      exact ⟨_, L, r, rfl, Nat.le_refl _, hL, HL.out, uL, this, hr, hb⟩

/-! ### up: written into the limbs of a row from off on -/
def UpPost (g off n s : Nat) (L X : List Int) (w : World) (e : Ending) (w' : World) : Prop :=
  ∃ (L' : List Int) (c : Nat), e = .returned (.tuple #[]) ∧ Blk w' g .u32 25 L' ∧ U32 L' ∧ L'.length = L.length ∧ (∀ j, j < off ∨ off + n ≤ j → nth L' j = nth L j) ∧
    val (sub L' off n) + R ^ n * c = val (X.take n) * 2 ^ s ∧ w.grownBy w' (some g)

set_option maxHeartbeats 1000000 in
theorem up_c (g off n cap s : Nat) (L : List Int) (ax : Option Addr) (cx : Nat) (X : List Int) (w : World) (hB : Blk w g .u32 25 L) (uL : U32 L) (hn : off + n ≤ L.length) (hcap : n ≤ cap)
    (hx : Sl .u32 w ax cx X) (ux : U32 X) (hap : ∀ b o, ax = some ⟨b, o, none⟩ → 0 < X.length → b ≠ g) (hmax : L.length ≤ 4611686018427387904) (hs : s < 32) :
    Calls Try.prog 35 #[.slice (some ⟨g, off, none⟩) n cap, .slice ax X.length cx, .int .i64 (s : Int)] w (UpPost g off n s L X w) := by
  have hxm := Nat.le_trans hx.le hx.max
  have hsi : (s : Int) < 32 := by omega
  have hsi0 : (0 : Int) ≤ (s : Int) := by omega
  go_enter Try.func35, Try.ntmps35
  go_wp2_with fail
  go_loopw [6, 11] (fun cv t wr => ∃ (i c : Nat) (L' : List Int), i ≤ n ∧ t = .int .i64 (i : Int) ∧ cv = .int .u32 (c : Int) ∧ c < 2 ^ s ∧ Blk wr g .u32 25 L' ∧ U32 L' ∧ L'.length = L.length ∧
      (∀ j, j < off ∨ off + i ≤ j → nth L' j = nth L j) ∧ val (sub L' off i) + R ^ i * c = val (X.take i) * 2 ^ s ∧ w.grownBy wr (some g))
    (fun _ t _ => n - (intOf t).toNat)
  case atStart => exact ⟨0, 0, L, by omega, rfl, rfl, Nat.two_pow_pos s, hB, uL, rfl, fun _ _ => rfl, by simp [sub, val], rfl, rfl, rfl, Nat.le_refl _, fun _ _ _ => rfl⟩
  case round =>
    obtain ⟨i, c, L', hi, rfl, rfl, hc, hB', uL', hlen, hout, hval, hgr⟩ := hrel
    have HL := Lib.hid hlen
    have HO := Lib.hid hout
    have HV := Lib.hid hval
    clear hlen hout hval
    by_cases hlt : i < n
    · have hcl := hB'.cell (off + i) (by have := HL.out; omega)
      have hfr := hB'.free (off + i)
      have hxl := lb_lt ux i
      have XC := Lib.hid (lb_cast ux i)
      obtain ⟨l, hle⟩ : ∃ l, l = lb X i := ⟨_, rfl⟩
      rw [← hle] at XC hxl
      have HLE := Lib.hid hle
      have hp := shl_parts hs hxl hc
      obtain ⟨lo, hlo⟩ : ∃ lo, lo = l * 2 ^ s % R := ⟨_, rfl⟩
      obtain ⟨h2, hh2⟩ : ∃ h2, h2 = l * 2 ^ s / R := ⟨_, rfl⟩
      rw [← hlo, ← hh2] at hp
      have hc32 : c < 4294967296 := Nat.lt_of_lt_of_le hc (Nat.pow_le_pow_right (n := 2) (by decide) (show s ≤ 32 by omega))
      have hlt64 : l * 2 ^ s < 18446744073709551616 := by
        have h1 : l * 2 ^ s < R * 2 ^ s := Nat.mul_lt_mul_of_pos_right hxl (Nat.two_pow_pos s)
        have h3 : R * 2 ^ s ≤ R * 2 ^ 32 := Nat.mul_le_mul_left R (Nat.pow_le_pow_right (by decide) (by omega))
        have h4 : R * 2 ^ 32 = 18446744073709551616 := by decide
        omega
      have ei : Hid ((l : Int) * 2 ^ s = ((l * 2 ^ s : Nat) : Int)) := Lib.hid (by rw [Int.natCast_mul, Int.natCast_pow]; rfl)
      have e0 : Hid (bits .or .u32 ((l : Int) * 2 ^ s % 4294967296) (c : Int) = ((lo + c : Nat) : Int)) := Lib.hid (by
        have hlR : lo < 4294967296 := by rw [hlo]; exact Nat.mod_lt _ R_pos
        rw [ei.out, show ((l * 2 ^ s : Nat) : Int) % 4294967296 = ((lo : Nat) : Int) by rw [hlo]; unfold R; omega, u32_or_nat _ _ hlR hc32, nat_join s lo c hp.1 hc])
      have e1 : Hid (IntKind.u64.wrap ((l : Int) * 2 ^ s) / 4294967296 % 4294967296 = ((h2 : Nat) : Int)) := Lib.hid (by
        have hh : h2 < 4294967296 := Nat.lt_of_lt_of_le hp.2.2 (Nat.pow_le_pow_right (n := 2) (by decide) (show s ≤ 32 by omega))
        rw [ei.out, IntKind.wrap_u64, hh2] at *
        unfold R at *
        omega)
      have fin : Hid (Blk (wr.setCell ⟨g, off + i, none⟩ (.int .u32 ((lo + c : Nat) : Int))) g .u32 25 (L'.set (off + i) ((lo + c : Nat) : Int)) ∧ U32 (L'.set (off + i) ((lo + c : Nat) : Int)) ∧
          (L'.set (off + i) ((lo + c : Nat) : Int)).length = L.length ∧ (∀ j, j < off ∨ off + (i + 1) ≤ j → nth (L'.set (off + i) ((lo + c : Nat) : Int)) j = nth L j) ∧
          val (sub (L'.set (off + i) ((lo + c : Nat) : Int)) off (i + 1)) + R ^ (i + 1) * h2 = val (X.take (i + 1)) * 2 ^ s ∧ w.grownBy (wr.setCell ⟨g, off + i, none⟩ (.int .u32 ((lo + c : Nat) : Int))) (some g)) := Lib.hid (by
        have hil : off + i < L'.length := by have := HL.out; omega
        refine ⟨hB'.set _ _, uL'.set _ (by omega) (by have := hp.2.1; unfold R at this; omega), by simpa using HL.out, fun j hj => ?_, ?_, grownBy_trans hgr (grownBy_set _ _ _)⟩
        · rw [nth_set _ _ _ _ hil, if_neg (by omega)]
          exact HO.out j (by omega)
        · rw [val_sub_next, sub_set _ _ _ _ hil, val_take_next, Rpow_next]
          have e1 : lb (L'.set (off + i) ((lo + c : Nat) : Int)) (off + i) = lo + c := by rw [lb, nth_set _ _ _ _ hil, if_pos rfl]; rfl
          rw [e1, ← HLE.out, hlo, hh2]
          exact up_step HV.out)
      have hH2 := Lib.hid hp.2.2
      have hl4 : (l : Int) ≤ 4294967295 := by unfold R at hxl; omega
      clear hp hlo hh2 hle hc hxl
      by_cases hin : i < X.length
      · obtain ⟨bx, ox, rfl, hcc⟩ := hx.cells (by omega)
        have hne := hap bx ox rfl (by omega)
        have hcx : wr.cell? ⟨bx, ox + i, none⟩ = some (.int .u32 (l : Int)) := by
          rw [XC.out, World.cell?_of_block (w := w) (hgr.block bx (World.block_lt_of_cell? w _ (hcc i hin)) (by simpa using hne))]
          exact hcc i hin
        clear hcc
        go_wp2_with fail
        go_roundw
        case rel =>
          obtain ⟨f1, f2, f3, f4, f5, f6⟩ := fin.out
          rw [e0.out]
          exact ⟨i + 1, h2, _, by omega, by go_num, by rw [e1.out], hH2.out, f1, f2, f3, f4, f5, f6⟩
        case measure => simp [intOf]; omega
      · have hl0 : l = 0 := by rw [HLE.out, lb, nth_out _ _ (by omega)]; rfl
        subst hl0
        go_wp2_with fail
        go_roundw
        case rel =>
          obtain ⟨f1, f2, f3, f4, f5, f6⟩ := fin.out
          have e0' : bits .or .u32 0 (c : Int) = ((lo + c : Nat) : Int) := by have := e0.out; simpa using this
          have e1' : (0 : Int) = ((h2 : Nat) : Int) := by have := e1.out; simpa [IntKind.wrap_u64] using this
          rw [e0']
          exact ⟨i + 1, h2, _, by omega, by go_num, by rw [← e1'], hH2.out, f1, f2, f3, f4, f5, f6⟩
        case measure => simp [intOf]; omega
    · obtain rfl : i = n := by omega
      go_wp2_with fail
      go_end0
      exact ⟨L', c, rfl, hB', uL', HL.out, HO.out, HV.out, hgr⟩

/-! ### down: a whole row -/
def DownPost (g : Nat) (L : List Int) (s : Nat) (w : World) (e : Ending) (w' : World) : Prop :=
  ∃ L' : List Int, e = .returned (.tuple #[]) ∧ Blk w' g .u32 25 L' ∧ U32 L' ∧ L'.length = L.length ∧ val L' = val L / 2 ^ s ∧ w.grownBy w' (some g)

set_option maxHeartbeats 1000000 in
theorem down_c (g cap s : Nat) (L : List Int) (w : World) (hB : Blk w g .u32 25 L) (uL : U32 L) (hcap : L.length ≤ cap) (hmax : L.length ≤ 4611686018427387904) (hs : s < 32) :
    Calls Try.prog 36 #[.slice (some ⟨g, 0, none⟩) L.length cap, .int .i64 (s : Int)] w (DownPost g L s w) := by
  have hsi : (s : Int) < 32 := by omega
  have hsi0 : (0 : Int) ≤ (s : Int) := by omega
  go_enter Try.func36, Try.ntmps36
  go_wp2_with fail
  go_loopw [8] (fun t wr => ∃ (i : Nat) (L' : List Int), i ≤ L.length ∧ t = .int .i64 (i : Int) ∧ Blk wr g .u32 25 L' ∧ U32 L' ∧ L'.length = L.length ∧
      val L / 2 ^ s = val (L'.take i) + R ^ i * (val (L'.drop i) / 2 ^ s) ∧ w.grownBy wr (some g))
    (fun t _ => L.length - (intOf t).toNat)
  case atStart => exact ⟨0, L, by omega, rfl, hB, uL, rfl, by simp [val], rfl, rfl, rfl, Nat.le_refl _, fun _ _ _ => rfl⟩
  case round =>
    obtain ⟨i, L', hi, rfl, hB', uL', hlen, hval, hgr⟩ := hrel
    have HL := Lib.hid hlen
    have HV := Lib.hid hval
    clear hlen hval
    by_cases hlt : i < L.length
    · have hiL : i < L'.length := by have := HL.out; omega
      have hcl := hB'.cell i hiL
      have hfr := hB'.free i
      have hal := lb_lt uL' i
      have AC := Lib.hid (lb_cast uL' i)
      obtain ⟨a, ha⟩ : ∃ a, a = lb L' i := ⟨_, rfl⟩
      rw [← ha] at AC hal
      rw [← AC.out] at hcl
      have HA := Lib.hid ha
      obtain ⟨b, hb⟩ : ∃ b, b = lb L' (i + 1) := ⟨_, rfl⟩
      have hbl : b < R := by rw [hb]; exact lb_lt uL' (i + 1)
      obtain ⟨v, hv⟩ : ∃ v, v = (a + b * R) / 2 ^ s % R := ⟨_, rfl⟩
      have hvR : v < R := by rw [hv]; exact Nat.mod_lt _ R_pos
      have hab : a + b * R < 18446744073709551616 := by unfold R at *; omega
      have HV2 : Hid ((((a + b * R : Nat) : Int) / 2 ^ s) % 4294967296 = (v : Int)) := Lib.hid (by
        rw [hv, show ((2 : Int) ^ s) = ((2 ^ s : Nat) : Int) by rw [Int.natCast_pow]; rfl, ← Int.natCast_ediv]
        unfold R; omega)
      have fin : Hid (Blk (wr.setCell ⟨g, i, none⟩ (.int .u32 (v : Int))) g .u32 25 (L'.set i (v : Int)) ∧ U32 (L'.set i (v : Int)) ∧ (L'.set i (v : Int)).length = L.length ∧
          val L / 2 ^ s = val ((L'.set i (v : Int)).take (i + 1)) + R ^ (i + 1) * (val ((L'.set i (v : Int)).drop (i + 1)) / 2 ^ s) ∧ w.grownBy (wr.setCell ⟨g, i, none⟩ (.int .u32 (v : Int))) (some g)) := Lib.hid (by
        refine ⟨hB'.set _ _, uL'.set _ (by omega) (by unfold R at hvR; omega), by simpa using HL.out, ?_, grownBy_trans hgr (grownBy_set _ _ _)⟩
        rw [val_take_set_succ _ _ _ hiL, Int.toNat_natCast, List.drop_set_of_lt (by omega), HV.out, val_drop L' i hiL, ← HA.out,
          down_step (b0 := b) hs hal (by rw [hb]; exact val_drop_mod _ _ _ hs), ← hv, Nat.mul_add, Rpow_next, Nat.mul_assoc, Nat.add_assoc])
      have a4 : (a : Int) ≤ 4294967295 := by unfold R at hal; omega
      by_cases hin : i + 1 < L.length
      · have hcb := hB'.cell (i + 1) (by have := HL.out; omega)
        rw [← lb_cast uL' (i + 1), ← hb] at hcb
        have b4 : (b : Int) ≤ 4294967295 := by unfold R at hbl; omega
        have e0 : Hid (bits .or .u64 (a : Int) ((b : Int) * 4294967296) = ((a + b * R : Nat) : Int)) := Lib.hid (by
          have := u64_or_nat a (b * 4294967296) (by unfold R at hal; omega) (by unfold R at hbl; omega)
          rw [show ((b : Int) * 4294967296) = ((b * 4294967296 : Nat) : Int) by omega, this, Nat.or_comm, nat_join 32 (b * 4294967296) a (by omega) (by unfold R at hal; omega)]
          unfold R; omega)
        have hin2 : (i : Int) + 1 < (L.length : Int) := by omega
        clear hb hbl hv hvR ha hal hiL
        go_wp2_with fail
        go_roundw
        case rel =>
          obtain ⟨f1, f2, f3, f4, f5⟩ := fin.out
          rw [e0.out, HV2.out]
          exact ⟨i + 1, _, by omega, by go_num, f1, f2, f3, f4, f5⟩
        case measure => simp [intOf]; omega
      · have hb0 : b = 0 := by rw [hb, lb, nth_out _ _ (by have := HL.out; omega)]; rfl
        have e0 : Hid ((((a : Nat) : Int) / 2 ^ s) % 4294967296 = (v : Int)) := Lib.hid (by have := HV2.out; rw [hb0] at this; simpa using this)
        have hin2 : ¬ (i : Int) + 1 < (L.length : Int) := by omega
        clear hb hb0 hbl hv hvR ha hal hiL hab
        go_wp2_with fail
        go_roundw
        case rel =>
          obtain ⟨f1, f2, f3, f4, f5⟩ := fin.out
          rw [e0.out]
          exact ⟨i + 1, _, by omega, by go_num, f1, f2, f3, f4, f5⟩
        case measure => simp [intOf]; omega
    · obtain rfl : i = L.length := by omega
      go_wp2_with fail
      go_end0
      refine ⟨L', rfl, hB', uL', HL.out, ?_, hgr⟩
      have := HV.out
      rw [List.take_of_length_le (by rw [HL.out]; omega), List.drop_of_length_le (by rw [HL.out]; omega)] at this
      rw [this]; simp [val]
end Go.Proofs.Ytnlmkikaaifcmaa
