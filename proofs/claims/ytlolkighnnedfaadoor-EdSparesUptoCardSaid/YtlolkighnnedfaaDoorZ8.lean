import Derived.Test.YtlolkighnnedfaaDoorZ6
import Derived.Test.YtlolkighnnedfaaDoorZ1
import Derived.Test.YtlolkighnnedfaaDoorZ7
/- nat.FromUint, math/bits.Div32, nat.short, by their contracts. -/
set_option linter.unusedVariables false
set_option linter.unusedSimpArgs false
namespace Go.Proofs.YtlolkighnnedfaaDoor
open Go.RowKit Go.Sg

/-- The number n, at the head of a new row of its own. -/
def NatRes1 (B : Nat) (w : World) (v : Value) (n : Nat) : Prop := ∃ g zs, v.ownBlock = some g ∧ New B .u32 36 w v zs ∧ Canon zs ∧ U32 zs ∧ val zs = n
theorem NatRes1.res {B : Nat} {w : World} {v : Value} {n : Nat} (h : NatRes1 B w v n) : NatRes B w v n := by
  obtain ⟨g, zs, _, h1, h2, h3, h4⟩ := h
  exact ⟨zs, h1, h2, h3, h4⟩
theorem NatRes1.of_blk {B g n : Nat} {w : World} {L : List Int} (h : Blk w g .u32 36 L) (hB : B ≤ g) (hu : U32 L) (hv : val L = n) (hl : L.length ≤ 9223372036854775807) : NatRes1 B w (.slice (some ⟨g, 0, none⟩) (norm L).length (norm L).length) n := by
  obtain ⟨zs, h1, h2, h3, h4⟩ := NatRes.of_blk h hB hu hv hl
  exact ⟨g, zs, rfl, h1, h2, h3, h4⟩

def FromUintPost (n : Nat) (w : World) (e : Ending) (w' : World) : Prop := ∃ v, e = .returned v ∧ NatRes1 w.heap.size w' v n ∧ Below w.heap.size w w'

set_option maxHeartbeats 1000000 in
theorem FromUint_c (u : Nat) (w : World) (hu : u < 18446744073709551616) :
    Calls Tryd.prog 109 #[.int .u64 (u : Int)] w (FromUintPost u w) := by
  have h0 : (0 : Int) ≤ (u : Int) := by omega
  have h1 : (u : Int) ≤ 18446744073709551615 := by omega
  have e0 : Hid ((u : Int) % 4294967296 = ((u % R : Nat) : Int)) := Lib.hid (by unfold R; omega)
  have e1 : Hid ((u : Int) / 4294967296 = ((u / R : Nat) : Int)) := Lib.hid (by unfold R; omega)
  have hk : Blk (w.alloc (.cells #[.int .u32 ((u : Int) % 4294967296), .int .u32 ((u : Int) / 4294967296)] 36)) w.heap.size .u32 36 [(u : Int) % 4294967296, (u : Int) / 4294967296] :=
    cells_new .u32 w 36 [(u : Int) % 4294967296, (u : Int) / 4294967296] #[.int .u32 ((u : Int) % 4294967296), .int .u32 ((u : Int) / 4294967296)] rfl _ rfl
  have hu32 : U32 [(u : Int) % 4294967296, (u : Int) / 4294967296] := .of_mem (by omega) (by simp; omega)
  have hv : val [(u : Int) % 4294967296, (u : Int) / 4294967296] = u := by
    simp only [val, R]; omega
  have hs := hk.sl_full (by simp)
  have hb := (Below.refl w.heap.size w).alloc (Nat.le_refl _) (.cells #[.int .u32 ((u : Int) % 4294967296), .int .u32 ((u : Int) / 4294967296)] 36)
  have pc := proper_c _ _ _ _ hs
  have HV := Lib.hid hv
  clear hv
  generalize hq : [(u : Int) % 4294967296, (u : Int) / 4294967296] = L at *
  have hL : L.length = 2 := by rw [← hq]; rfl
  rw [hL] at pc
  have HL := Lib.hid hL
  clear hq hL hs
  go_enter Tryd.func109, Tryd.ntmps109
  go_wp2_with fail
  refine pc.mono ?_; rintro e w' ⟨rfl, rfl⟩
  clear pc
  go_wp2_with fail
  go_ret
  exact ⟨_, rfl, .of_blk hk (Nat.le_refl _) hu32 HV.out (by rw [HL.out]; omega), hb⟩

/-- Quotient and rest of (h 2^32 + l) by y, h below y. -/
def Div32Post (h l y : Nat) (w : World) (e : Ending) (w' : World) : Prop :=
  e = .returned (.tuple #[.int .u32 (((R * h + l) / y : Nat) : Int), .int .u32 (((R * h + l) % y : Nat) : Int)]) ∧ Dr w w'

set_option maxHeartbeats 1000000 in
theorem Div32_c (h l y : Nat) (w : World) (hl : l < R) (hy : y < R) (hh : h < y) :
    Calls Tryd.prog 125 #[.int .u32 (h : Int), .int .u32 (l : Int), .int .u32 (y : Int)] w (Div32Post h l y w) := by
  have hR : R = 4294967296 := rfl
  have h4 : (h : Int) ≤ 4294967295 := by omega
  have l4 : (l : Int) ≤ 4294967295 := by omega
  have y4 : (y : Int) ≤ 4294967295 := by omega
  have y1 : (1 : Int) ≤ (y : Int) := by omega
  have y0 : ((y : Int) != 0) = true := by simp; omega
  have hlt : ¬ (y : Int) ≤ (h : Int) := by omega
  have hd : decide ((y : Int) ≤ (h : Int)) = false := decide_eq_false hlt
  have hq : (R * h + l) / y < R := by
    rw [Nat.div_lt_iff_lt_mul (by omega)]
    have : R * (h + 1) ≤ R * y := Nat.mul_le_mul_left R hh
    rw [Nat.mul_add] at this; omega
  have hr : (R * h + l) % y < R := Nat.lt_trans (Nat.mod_lt _ (by omega)) hy
  have e0 : Hid (bits .or .u64 ((h : Int) * 4294967296) (l : Int) = ((R * h + l : Nat) : Int)) := Lib.hid (by
    have := u64_or_nat (h * 4294967296) l (by omega) (by omega)
    rw [show ((h : Int) * 4294967296) = ((h * 4294967296 : Nat) : Int) by omega, this, nat_join 32 (h * 4294967296) l (by omega) (by omega)]
    rw [hR]; omega)
  have q0 : Hid (((R * h + l : Nat) : Int) / (y : Int) = (((R * h + l) / y : Nat) : Int)) := Lib.hid (Int.natCast_ediv ..).symm
  have r0 : Hid (((R * h + l : Nat) : Int) % (y : Int) = (((R * h + l) % y : Nat) : Int)) := Lib.hid (Int.natCast_emod ..).symm
  have q1 : Hid ((((R * h + l) / y : Nat) : Int) % 4294967296 = (((R * h + l) / y : Nat) : Int)) := Lib.hid (Int.emod_eq_of_lt (Int.natCast_nonneg _) (Int.ofNat_lt.2 hq))
  have r1 : Hid ((((R * h + l) % y : Nat) : Int) % 4294967296 = (((R * h + l) % y : Nat) : Int)) := Lib.hid (Int.emod_eq_of_lt (Int.natCast_nonneg _) (Int.ofNat_lt.2 hr))
  obtain ⟨T, hT⟩ : ∃ T, T = R * h + l := ⟨_, rfl⟩
  rw [← hT] at e0 q0 r0 q1 r1
  have hT64 : (T : Int) ≤ 18446744073709551615 := by
    have : R * (h + 1) ≤ R * R := Nat.mul_le_mul_left R (by omega)
    rw [hT]; rw [hR] at *; omega
  have HT := Lib.hid hT
  clear hR hq hr hT
  go_enter Tryd.func125, Tryd.ntmps125
  go_wp2_with fail
  rw [e0.out]
  go_quiet (fail)
  go_wp2_with fail
  go_ret2
  refine ⟨?_, (by repeat (first | exact Dr.refl _ | apply Dr.drewN))⟩
  have hq64 : IntKind.u64.wrap ((T : Int) / (y : Int)) = ((T / y : Nat) : Int) := by
    rw [IntKind.wrap_u64, q0.out]
    have : T / y ≤ T := Nat.div_le_self _ _
    apply Int.emod_eq_of_lt (Int.natCast_nonneg _)
    have h2 : ((T / y : Nat) : Int) ≤ (T : Int) := Int.ofNat_le.2 this
    omega
  refine congrArg Ending.returned (congrArg Value.tuple ?_)
  show #[Value.int .u32 (IntKind.u64.wrap ((T : Int) / (y : Int)) % 4294967296), Value.int .u32 ((T : Int) % (y : Int) % 4294967296)] = _
  rw [hq64, q1.out, r0.out, r1.out, HT.out]
end Go.Proofs.YtlolkighnnedfaaDoor
/- nat.short, up, down, by their contracts. -/
set_option linter.unusedVariables false
set_option linter.unusedSimpArgs false
namespace Go.Proofs.YtlolkighnnedfaaDoor
open Go.RowKit Go.Sg

theorem drop_set_at (L : List Int) (i : Nat) (v : Int) (h : i < L.length) : (L.set i v).drop i = v :: L.drop (i + 1) := by
  rw [drop_nth _ _ (by simpa using h), nth_set _ _ _ _ h, if_pos rfl, List.drop_set_of_lt (by omega)]

def ShortPost (x : List Int) (d : Nat) (w : World) (e : Ending) (w' : World) : Prop :=
  ∃ (g : Nat) (L : List Int) (r : Nat), e = .returned (.tuple #[.slice (some ⟨g, 0, none⟩) x.length x.length, .int .u32 (r : Int)]) ∧ w.heap.size ≤ g ∧ Blk w' g .u32 36 L ∧ L.length = x.length ∧ U32 L ∧ val x = d * val L + r ∧ r < d ∧ Below w.heap.size w w'

set_option maxHeartbeats 1000000 in
theorem nshort_c (a : Option Addr) (cap : Nat) (x : List Int) (d : Nat) (w : World) (hx : Sl .u32 w a cap x) (ux : U32 x) (hd : d < R) (hd0 : 0 < d) (hl : x.length ≤ 35184372088832) :
    Calls Tryd.prog 108 #[.slice a x.length cap, .int .u32 (d : Int)] w (ShortPost x d w) := by
  go_enter Tryd.func108, Tryd.ntmps108
  go_wp2_with (at_make; refine wpList_make_blk _ rfl _ _ 26 rfl 36 .u32 4 Tryd.underlying26 info32 x.length _ _ rfl rfl rfl rfl (by omega) (by omega) ?_)
  intro w1 hk1 hs1 hb1
  have HS := Lib.hid hs1
  clear hs1
  go_wp2_with fail
  go_loopw [7, 8] (fun rv t wr => ∃ (j r : Nat) (L : List Int), j ≤ x.length ∧ t = .int .i64 ((j : Int) - 1) ∧ rv = .int .u32 (r : Int) ∧ r < d ∧ Blk wr w.heap.size .u32 36 L ∧ L.length = x.length ∧ U32 L ∧
      val (x.drop j) = d * val (L.drop j) + r ∧ Below w.heap.size w wr)
    (fun _ t _ => (intOf t + 1).toNat)
  case atStart => exact ⟨x.length, 0, _, by omega, by go_num, rfl, hd0, hk1, by simp, .zeros (by omega) _, by rw [List.drop_length, List.drop_of_length_le (by simp)]; simp [val], hb1⟩
  case round =>
    obtain ⟨j, r, L, hj, rfl, rfl, hr, hL, hLl, uL, hval, hb⟩ := hrel
    have HL := Lib.hid hLl
    have HV := Lib.hid hval
    clear hLl hval
    by_cases h0 : 0 < j
    · obtain ⟨i, rfl⟩ : ∃ i, j = i + 1 := ⟨j - 1, by omega⟩
      obtain ⟨bx, ox, rfl, hcc⟩ := hx.cells (by omega)
      have hcx := (hb.cell (World.block_lt_of_cell? w _ (hcc i (by omega)))).trans (hcc i (by omega))
      have XC := Lib.hid (lb_cast ux i)
      rw [← XC.out] at hcx
      have hxl := lb_lt ux i
      have hj3 : (((i + 1 : Nat) : Int) - 1) = (i : Int) := by omega
      rw [hj3]
      have HJ := Lib.hid hj3
      have hiL : i < L.length := by have := HL.out; omega
      obtain ⟨q, hq⟩ : ∃ q, q = (R * r + lb x i) / d := ⟨_, rfl⟩
      obtain ⟨r', hr'⟩ : ∃ r', r' = (R * r + lb x i) % d := ⟨_, rfl⟩
      have hq32 : q < R := by
        rw [hq, Nat.div_lt_iff_lt_mul hd0]
        have : R * (r + 1) ≤ R * d := Nat.mul_le_mul_left R hr
        rw [Nat.mul_add] at this; omega
      have hr'd : r' < d := by rw [hr']; exact Nat.mod_lt _ hd0
      have hqr : d * q + r' = R * r + lb x i := by rw [hq, hr']; exact Nat.div_add_mod _ _
      have hcl := hL.cell i hiL
      have hfr := hL.free i
      have hL' := hL.set i (q : Int)
      have uL' : U32 (L.set i (q : Int)) := uL.set _ (by omega) (by unfold R at hq32; omega)
      have fin : Hid (val (x.drop i) = d * val ((L.set i (q : Int)).drop i) + r') := Lib.hid (by
        rw [drop_set_at _ _ _ hiL, val, Int.toNat_natCast, val_drop x i (by omega), HV.out, Nat.mul_add, Nat.mul_add, Nat.mul_left_comm R d]
        omega)
      have hlen' : Hid ((L.set i (q : Int)).length = x.length) := Lib.hid (by have := HL.out; simpa using this)
      have hbk := hb.setCell (p := ⟨w.heap.size, i, none⟩) (Nat.le_refl _) (.int .u32 (q : Int))
      have hi0 : (0 : Int) ≤ (i : Int) := by omega
      have hix : i < x.length := by omega
      have HQ := Lib.hid hq
      have HR := Lib.hid hr'
      clear hcc hj3 h0 hqr hq hr' hiL
      go_wp2_with fail
      refine (Div32_c _ _ _ _ hxl hd hr).mono ?_; rintro e w' ⟨rfl, nd, rfl⟩
      rw [← HQ.out, ← HR.out]
      go_wp2_with fail
      go_roundw
      case rel =>
        exact ⟨i, r', _, by omega, by go_num, rfl, hr'd, hL', hlen'.out, uL', fin.out, below_drewN hbk nd⟩
      case measure => simp [intOf]
    · obtain rfl : j = 0 := by omega
      clear h0 hj
      rw [show (((0 : Nat) : Int) - 1) = -1 from rfl]
      go_wp2_with fail
      go_ret2
      have := HV.out
      simp only [List.drop_zero] at this
      exact ⟨_, L, r, rfl, Nat.le_refl _, hL, HL.out, uL, this, hr, hb⟩

/-! ### up: written into the limbs of a row from off on -/
def UpPost (g off n s : Nat) (L X : List Int) (w : World) (e : Ending) (w' : World) : Prop :=
  ∃ (L' : List Int) (c : Nat), e = .returned (.tuple #[]) ∧ Blk w' g .u32 36 L' ∧ U32 L' ∧ L'.length = L.length ∧ (∀ j, j < off ∨ off + n ≤ j → nth L' j = nth L j) ∧
    val (sub L' off n) + R ^ n * c = val (X.take n) * 2 ^ s ∧ w.grownBy w' (some g)

set_option maxHeartbeats 1000000 in
theorem up_c (g off n cap s : Nat) (L : List Int) (ax : Option Addr) (cx : Nat) (X : List Int) (w : World) (hB : Blk w g .u32 36 L) (uL : U32 L) (hn : off + n ≤ L.length) (hcap : n ≤ cap)
    (hx : Sl .u32 w ax cx X) (ux : U32 X) (hap : ∀ b o, ax = some ⟨b, o, none⟩ → 0 < X.length → b ≠ g) (hmax : L.length ≤ 4611686018427387904) (hs : s < 32) :
    Calls Tryd.prog 127 #[.slice (some ⟨g, off, none⟩) n cap, .slice ax X.length cx, .int .i64 (s : Int)] w (UpPost g off n s L X w) := by
  have hxm := Nat.le_trans hx.le hx.max
  have hsi : (s : Int) < 32 := by omega
  have hsi0 : (0 : Int) ≤ (s : Int) := by omega
  go_enter Tryd.func127, Tryd.ntmps127
  go_wp2_with fail
  go_loopw [6, 11] (fun cv t wr => ∃ (i c : Nat) (L' : List Int), i ≤ n ∧ t = .int .i64 (i : Int) ∧ cv = .int .u32 (c : Int) ∧ c < 2 ^ s ∧ Blk wr g .u32 36 L' ∧ U32 L' ∧ L'.length = L.length ∧
      (∀ j, j < off ∨ off + i ≤ j → nth L' j = nth L j) ∧ val (sub L' off i) + R ^ i * c = val (X.take i) * 2 ^ s ∧ w.grownBy wr (some g))
    (fun _ t _ => n - (intOf t).toNat)
  case atStart => exact ⟨0, 0, L, by omega, rfl, rfl, Nat.two_pow_pos s, hB, uL, rfl, fun _ _ => rfl, by simp [sub, val], rfl, rfl, rfl, Nat.le_refl _, fun _ _ _ => rfl⟩
  case round =>
    obtain ⟨i, c, L', hi, rfl, rfl, hc, hB', uL', hlen, hout, hval, hgr⟩ := hrel
    have HL := Lib.hid hlen
    have HO := Lib.hid hout
    have HV := Lib.hid hval
    clear hlen hout hval
    by_cases hlt : i < n
    · have hcl := hB'.cell (off + i) (by have := HL.out; omega)
      have hfr := hB'.free (off + i)
      have hxl := lb_lt ux i
      have XC := Lib.hid (lb_cast ux i)
      obtain ⟨l, hle⟩ : ∃ l, l = lb X i := ⟨_, rfl⟩
      rw [← hle] at XC hxl
      have HLE := Lib.hid hle
      have hp := shl_parts hs hxl hc
      obtain ⟨lo, hlo⟩ : ∃ lo, lo = l * 2 ^ s % R := ⟨_, rfl⟩
      obtain ⟨h2, hh2⟩ : ∃ h2, h2 = l * 2 ^ s / R := ⟨_, rfl⟩
      rw [← hlo, ← hh2] at hp
      have hc32 : c < 4294967296 := Nat.lt_of_lt_of_le hc (Nat.pow_le_pow_right (n := 2) (by decide) (show s ≤ 32 by omega))
      have hlt64 : l * 2 ^ s < 18446744073709551616 := by
        have h1 : l * 2 ^ s < R * 2 ^ s := Nat.mul_lt_mul_of_pos_right hxl (Nat.two_pow_pos s)
        have h3 : R * 2 ^ s ≤ R * 2 ^ 32 := Nat.mul_le_mul_left R (Nat.pow_le_pow_right (by decide) (by omega))
        have h4 : R * 2 ^ 32 = 18446744073709551616 := by decide
        omega
      have ei : Hid ((l : Int) * 2 ^ s = ((l * 2 ^ s : Nat) : Int)) := Lib.hid (by rw [Int.natCast_mul, Int.natCast_pow]; rfl)
      have e0 : Hid (bits .or .u32 ((l : Int) * 2 ^ s % 4294967296) (c : Int) = ((lo + c : Nat) : Int)) := Lib.hid (by
        have hlR : lo < 4294967296 := by rw [hlo]; exact Nat.mod_lt _ R_pos
        rw [ei.out, show ((l * 2 ^ s : Nat) : Int) % 4294967296 = ((lo : Nat) : Int) by rw [hlo]; unfold R; omega, u32_or_nat _ _ hlR hc32, nat_join s lo c hp.1 hc])
      have e1 : Hid (IntKind.u64.wrap ((l : Int) * 2 ^ s) / 4294967296 % 4294967296 = ((h2 : Nat) : Int)) := Lib.hid (by
        have hh : h2 < 4294967296 := Nat.lt_of_lt_of_le hp.2.2 (Nat.pow_le_pow_right (n := 2) (by decide) (show s ≤ 32 by omega))
        rw [ei.out, IntKind.wrap_u64, hh2] at *
        unfold R at *
        omega)
      have fin : Hid (Blk (wr.setCell ⟨g, off + i, none⟩ (.int .u32 ((lo + c : Nat) : Int))) g .u32 36 (L'.set (off + i) ((lo + c : Nat) : Int)) ∧ U32 (L'.set (off + i) ((lo + c : Nat) : Int)) ∧
          (L'.set (off + i) ((lo + c : Nat) : Int)).length = L.length ∧ (∀ j, j < off ∨ off + (i + 1) ≤ j → nth (L'.set (off + i) ((lo + c : Nat) : Int)) j = nth L j) ∧
          val (sub (L'.set (off + i) ((lo + c : Nat) : Int)) off (i + 1)) + R ^ (i + 1) * h2 = val (X.take (i + 1)) * 2 ^ s ∧ w.grownBy (wr.setCell ⟨g, off + i, none⟩ (.int .u32 ((lo + c : Nat) : Int))) (some g)) := Lib.hid (by
        have hil : off + i < L'.length := by have := HL.out; omega
        refine ⟨hB'.set _ _, uL'.set _ (by omega) (by have := hp.2.1; unfold R at this; omega), by simpa using HL.out, fun j hj => ?_, ?_, grownBy_trans hgr (grownBy_set _ _ _)⟩
        · rw [nth_set _ _ _ _ hil, if_neg (by omega)]
          exact HO.out j (by omega)
        · rw [val_sub_next, sub_set _ _ _ _ hil, val_take_next, Rpow_next]
          have e1 : lb (L'.set (off + i) ((lo + c : Nat) : Int)) (off + i) = lo + c := by rw [lb, nth_set _ _ _ _ hil, if_pos rfl]; rfl
          rw [e1, ← HLE.out, hlo, hh2]
          exact up_step HV.out)
      have hH2 := Lib.hid hp.2.2
      have hl4 : (l : Int) ≤ 4294967295 := by unfold R at hxl; omega
      clear hp hlo hh2 hle hc hxl
      by_cases hin : i < X.length
      · obtain ⟨bx, ox, rfl, hcc⟩ := hx.cells (by omega)
        have hne := hap bx ox rfl (by omega)
        have hcx : wr.cell? ⟨bx, ox + i, none⟩ = some (.int .u32 (l : Int)) := by
          rw [XC.out, World.cell?_of_block (w := w) (hgr.block bx (World.block_lt_of_cell? w _ (hcc i hin)) (by simpa using hne))]
          exact hcc i hin
        clear hcc
        go_wp2_with fail
        go_roundw
        case rel =>
          obtain ⟨f1, f2, f3, f4, f5, f6⟩ := fin.out
          rw [e0.out]
          exact ⟨i + 1, h2, _, by omega, by go_num, by rw [e1.out], hH2.out, f1, f2, f3, f4, f5, f6⟩
        case measure => simp [intOf]; omega
      · have hl0 : l = 0 := by rw [HLE.out, lb, nth_out _ _ (by omega)]; rfl
        subst hl0
        go_wp2_with fail
        go_roundw
        case rel =>
          obtain ⟨f1, f2, f3, f4, f5, f6⟩ := fin.out
          have e0' : bits .or .u32 0 (c : Int) = ((lo + c : Nat) : Int) := by have := e0.out; simpa using this
          have e1' : (0 : Int) = ((h2 : Nat) : Int) := by have := e1.out; simpa [IntKind.wrap_u64] using this
          rw [e0']
          exact ⟨i + 1, h2, _, by omega, by go_num, by rw [← e1'], hH2.out, f1, f2, f3, f4, f5, f6⟩
        case measure => simp [intOf]; omega
    · obtain rfl : i = n := by omega
      go_wp2_with fail
      go_end0
      exact ⟨L', c, rfl, hB', uL', HL.out, HO.out, HV.out, hgr⟩

/-! ### down: a whole row -/
def DownPost (g : Nat) (L : List Int) (s : Nat) (w : World) (e : Ending) (w' : World) : Prop :=
  ∃ L' : List Int, e = .returned (.tuple #[]) ∧ Blk w' g .u32 36 L' ∧ U32 L' ∧ L'.length = L.length ∧ val L' = val L / 2 ^ s ∧ w.grownBy w' (some g)

set_option maxHeartbeats 1000000 in
theorem down_c (g cap s : Nat) (L : List Int) (w : World) (hB : Blk w g .u32 36 L) (uL : U32 L) (hcap : L.length ≤ cap) (hmax : L.length ≤ 4611686018427387904) (hs : s < 32) :
    Calls Tryd.prog 124 #[.slice (some ⟨g, 0, none⟩) L.length cap, .int .i64 (s : Int)] w (DownPost g L s w) := by
  have hsi : (s : Int) < 32 := by omega
  have hsi0 : (0 : Int) ≤ (s : Int) := by omega
  go_enter Tryd.func124, Tryd.ntmps124
  go_wp2_with fail
  go_loopw [8] (fun t wr => ∃ (i : Nat) (L' : List Int), i ≤ L.length ∧ t = .int .i64 (i : Int) ∧ Blk wr g .u32 36 L' ∧ U32 L' ∧ L'.length = L.length ∧
      val L / 2 ^ s = val (L'.take i) + R ^ i * (val (L'.drop i) / 2 ^ s) ∧ w.grownBy wr (some g))
    (fun t _ => L.length - (intOf t).toNat)
  case atStart => exact ⟨0, L, by omega, rfl, hB, uL, rfl, by simp [val], rfl, rfl, rfl, Nat.le_refl _, fun _ _ _ => rfl⟩
  case round =>
    obtain ⟨i, L', hi, rfl, hB', uL', hlen, hval, hgr⟩ := hrel
    have HL := Lib.hid hlen
    have HV := Lib.hid hval
    clear hlen hval
    by_cases hlt : i < L.length
    · have hiL : i < L'.length := by have := HL.out; omega
      have hcl := hB'.cell i hiL
      have hfr := hB'.free i
      have hal := lb_lt uL' i
      have AC := Lib.hid (lb_cast uL' i)
      obtain ⟨a, ha⟩ : ∃ a, a = lb L' i := ⟨_, rfl⟩
      rw [← ha] at AC hal
      rw [← AC.out] at hcl
      have HA := Lib.hid ha
      obtain ⟨b, hb⟩ : ∃ b, b = lb L' (i + 1) := ⟨_, rfl⟩
      have hbl : b < R := by rw [hb]; exact lb_lt uL' (i + 1)
      obtain ⟨v, hv⟩ : ∃ v, v = (a + b * R) / 2 ^ s % R := ⟨_, rfl⟩
      have hvR : v < R := by rw [hv]; exact Nat.mod_lt _ R_pos
      have hab : a + b * R < 18446744073709551616 := by unfold R at *; omega
      have HV2 : Hid ((((a + b * R : Nat) : Int) / 2 ^ s) % 4294967296 = (v : Int)) := Lib.hid (by
        rw [hv, show ((2 : Int) ^ s) = ((2 ^ s : Nat) : Int) by rw [Int.natCast_pow]; rfl, ← Int.natCast_ediv]
        unfold R; omega)
      have fin : Hid (Blk (wr.setCell ⟨g, i, none⟩ (.int .u32 (v : Int))) g .u32 36 (L'.set i (v : Int)) ∧ U32 (L'.set i (v : Int)) ∧ (L'.set i (v : Int)).length = L.length ∧
          val L / 2 ^ s = val ((L'.set i (v : Int)).take (i + 1)) + R ^ (i + 1) * (val ((L'.set i (v : Int)).drop (i + 1)) / 2 ^ s) ∧ w.grownBy (wr.setCell ⟨g, i, none⟩ (.int .u32 (v : Int))) (some g)) := Lib.hid (by
        refine ⟨hB'.set _ _, uL'.set _ (by omega) (by unfold R at hvR; omega), by simpa using HL.out, ?_, grownBy_trans hgr (grownBy_set _ _ _)⟩
        rw [val_take_set_succ _ _ _ hiL, Int.toNat_natCast, List.drop_set_of_lt (by omega), HV.out, val_drop L' i hiL, ← HA.out,
          down_step (b0 := b) hs hal (by rw [hb]; exact val_drop_mod _ _ _ hs), ← hv, Nat.mul_add, Rpow_next, Nat.mul_assoc, Nat.add_assoc])
      have a4 : (a : Int) ≤ 4294967295 := by unfold R at hal; omega
      by_cases hin : i + 1 < L.length
      · have hcb := hB'.cell (i + 1) (by have := HL.out; omega)
        rw [← lb_cast uL' (i + 1), ← hb] at hcb
        have b4 : (b : Int) ≤ 4294967295 := by unfold R at hbl; omega
        have e0 : Hid (bits .or .u64 (a : Int) ((b : Int) * 4294967296) = ((a + b * R : Nat) : Int)) := Lib.hid (by
          have := u64_or_nat a (b * 4294967296) (by unfold R at hal; omega) (by unfold R at hbl; omega)
          rw [show ((b : Int) * 4294967296) = ((b * 4294967296 : Nat) : Int) by omega, this, Nat.or_comm, nat_join 32 (b * 4294967296) a (by omega) (by unfold R at hal; omega)]
          unfold R; omega)
        have hin2 : (i : Int) + 1 < (L.length : Int) := by omega
        clear hb hbl hv hvR ha hal hiL
        go_wp2_with fail
        go_roundw
        case rel =>
          obtain ⟨f1, f2, f3, f4, f5⟩ := fin.out
          rw [e0.out, HV2.out]
          exact ⟨i + 1, _, by omega, by go_num, f1, f2, f3, f4, f5⟩
        case measure => simp [intOf]; omega
      · have hb0 : b = 0 := by rw [hb, lb, nth_out _ _ (by have := HL.out; omega)]; rfl
        have e0 : Hid ((((a : Nat) : Int) / 2 ^ s) % 4294967296 = (v : Int)) := Lib.hid (by have := HV2.out; rw [hb0] at this; simpa using this)
        have hin2 : ¬ (i : Int) + 1 < (L.length : Int) := by omega
        clear hb hb0 hbl hv hvR ha hal hiL hab
        go_wp2_with fail
        go_roundw
        case rel =>
          obtain ⟨f1, f2, f3, f4, f5⟩ := fin.out
          rw [e0.out]
          exact ⟨i + 1, _, by omega, by go_num, f1, f2, f3, f4, f5⟩
        case measure => simp [intOf]; omega
    · obtain rfl : i = L.length := by omega
      go_wp2_with fail
      go_end0
      refine ⟨L', rfl, hB', uL', HL.out, ?_, hgr⟩
      have := HV.out
      rw [List.take_of_length_le (by rw [HL.out]; omega), List.drop_of_length_le (by rw [HL.out]; omega)] at this
      rw [this]; simp [val]
end Go.Proofs.YtlolkighnnedfaaDoor
/- nat.below, nat.estimate, by their contracts. -/
set_option linter.unusedVariables false
set_option linter.unusedSimpArgs false
namespace Go.Proofs.YtlolkighnnedfaaDoor
open Go.RowKit Go.Sg

set_option maxHeartbeats 1000000 in
theorem below_c (a a' : Option Addr) (cap cap' : Nat) (U V : List Int) (w : World) (hu : Sl .u32 w a cap U) (hv : Sl .u32 w a' cap' V) (uu : U32 U) (uv : U32 V) (hl : U.length = V.length) :
    Calls Tryd.prog 129 #[.slice a U.length cap, .slice a' U.length cap'] w (BoolPost (decide (val U < val V)) w) := by
  have hxm := Nat.le_trans hu.le hu.max
  obtain ⟨n, hn⟩ : ∃ n, n = U.length := ⟨_, rfl⟩
  have HN := Lib.hid hn
  have HV := Lib.hid (show V.length = n by omega)
  rw [← hn] at hxm ⊢
  clear hn hl
  go_enter Tryd.func129, Tryd.ntmps129
  go_wp2_with fail
  go_loopw [5] (fun t wr => ∃ k : Nat, k ≤ n ∧ t = .int .i64 ((k : Int) - 1) ∧ U.drop k = V.drop k ∧ Dr w wr)
    (fun t _ => (intOf t + 1).toNat)
  case atStart => exact ⟨n, by omega, by go_num, by rw [List.drop_of_length_le (by have := HN.out; omega), List.drop_of_length_le (by have := HV.out; omega)], Dr.refl _⟩
  case round =>
    obtain ⟨k, hk, rfl, hd, nd, rfl⟩ := hrel
    have Hd := Lib.hid hd; clear hd
    by_cases h0 : 0 < k
    · obtain ⟨j, rfl⟩ : ∃ j, k = j + 1 := ⟨k - 1, by omega⟩
      obtain ⟨b, off, rfl, hcc⟩ := hu.cells (by have := HN.out; omega)
      obtain ⟨b', off', rfl, hcc'⟩ := hv.cells (by have := HV.out; omega)
      have hcell := hcc j (by have := HN.out; omega)
      have hcell' := hcc' j (by have := HV.out; omega)
      clear hcc hcc'
      have hj3 : (((j + 1 : Nat) : Int) - 1) = (j : Int) := by omega
      have hjn : j < n := by omega
      rw [hj3]
      have HJ := Lib.hid hj3
      clear hj3 h0
      by_cases he : nth U j = nth V j
      · have hes := drop_step j (by have := HN.out; have := HV.out; omega) (by have := HN.out; omega) Hd.out he
        have He := Lib.hid hes
        have g1 : (nth U j != nth V j) = false := by rw [he]; simp
        clear hes he
        go_wp2_with fail
        go_quiet (fail)
        go_wp2_with fail
        go_roundw
        case rel => exact ⟨j, by omega, by go_num, He.out, (by repeat (first | exact Dr.refl _ | apply Dr.drewN))⟩
        case measure => simp [intOf]
      · have g1 : (nth U j != nth V j) = true := by simpa using he
        have hres : decide (val U < val V) = decide (nth U j < nth V j) := by
          rcases Int.lt_trichotomy (nth U j) (nth V j) with h | h | h
          · rw [decide_eq_true h, decide_eq_true (top_lt uu j (by have := HN.out; have := HV.out; omega) (by have := HN.out; omega) Hd.out h)]
          · exact absurd h he
          · have := top_lt uv j (by have := HN.out; have := HV.out; omega) (by have := HV.out; omega) Hd.out.symm h
            rw [decide_eq_false (by omega), decide_eq_false (by omega)]
        have HR := Lib.hid hres
        clear he hres
        go_wp2_with fail
        go_quiet (fail)
        go_wp2_with fail
        go_quiet (fail)
        go_wp2_with fail
        go_ret
        exact ⟨by rw [HR.out]; rfl, (by repeat (first | exact Dr.refl _ | apply Dr.drewN))⟩
    · obtain rfl : k = 0 := by omega
      have e := Hd.out
      simp only [List.drop_zero] at e
      have HR : Hid (decide (val U < val V) = false) := Lib.hid (decide_eq_false (by rw [e]; omega))
      clear e h0 hk
      rw [show (((0 : Nat) : Int) - 1) = -1 from rfl]
      go_wp2_with fail
      go_ret
      exact ⟨by rw [HR.out]; rfl, nd, rfl⟩

/-- A digit of the quotient, or more, but a limb. -/
def EstPost (U V : List Int) (w : World) (e : Ending) (w' : World) : Prop := ∃ q : Nat, e = .returned (.int .u64 (q : Int)) ∧ val U / val V ≤ q ∧ q < R ∧ Dr w w'

def EstRel (v1 q T : Nat) (w : World) (dv rv : Value) (wr : World) : Prop := ∃ d r : Nat, dv = .int .u64 (d : Int) ∧ rv = .int .u64 (r : Int) ∧ d * v1 + r = T ∧ r < R ∧ q ≤ d ∧ Dr w wr

def estMu (v : Value) : Nat := (intOf v).toNat

set_option maxHeartbeats 2000000 in
set_option maxRecDepth 100000 in
theorem estimate_c (a a' : Option Addr) (cap cap' k : Nat) (U V : List Int) (w : World) (hu : Sl .u32 w a cap U) (hv : Sl .u32 w a' cap' V) (uu : U32 U) (uv : U32 V) (hU : U.length = k + 3) (hV : V.length = k + 2)
    (hv1 : lb V (k + 1) ≠ 0) (hlt : val U < val V * R) :
    Calls Tryd.prog 128 #[.slice a (k + 3) cap, .slice a' (k + 2) cap'] w (EstPost U V w) := by
  have hum := Nat.le_trans hu.le hu.max
  obtain ⟨b, off, rfl, hcc⟩ := hu.cells (by omega)
  obtain ⟨b', off', rfl, hcc'⟩ := hv.cells (by omega)
  have c1 := hcc (k + 2) (by omega)
  have c2 := hcc (k + 1) (by omega)
  have c3 := hcc k (by omega)
  have d1 := hcc' (k + 1) (by omega)
  have d2 := hcc' k (by omega)
  rw [← lb_cast uu] at c1 c2 c3
  rw [← lb_cast uv] at d1 d2
  have l1 := lb_lt uu (k + 2)
  have l2 := lb_lt uu (k + 1)
  have l3 := lb_lt uu k
  have m1 := lb_lt uv (k + 1)
  have m2 := lb_lt uv k
  have eV := val_two V k hV
  have eU := val_three U k hU
  have tV := val_take_lt uv k (by omega)
  have tU := val_take_lt uu k (by omega)
  generalize lb U (k + 2) = u1 at *
  generalize lb U (k + 1) = u2 at *
  generalize lb U k = u3 at *
  generalize lb V (k + 1) = v1 at *
  generalize lb V k = v2 at *
  obtain ⟨T, hT⟩ : ∃ T, T = u1 * R + u2 := ⟨_, rfl⟩
  obtain ⟨q, hq⟩ : ∃ q, q = val U / val V := ⟨_, rfl⟩
  rw [← hT] at eU
  have hqV : q * val V ≤ val U := by rw [hq]; exact Nat.div_mul_le_self _ _
  have hpair : q * (v1 * R + v2) ≤ T * R + u3 := est_pair hqV (P := R ^ k) (by rw [eV, Nat.mul_comm]; omega) (by
    rw [eU, Nat.add_mul, Nat.one_mul, Nat.mul_comm (R ^ k)]; omega)
  have hone := est_one hpair l3
  have hVpos : 0 < val V := by
    rw [eV]
    have : 1 ≤ R ^ k * (v1 * R + v2) := Nat.mul_pos (Rpow_pos k) (by have : 1 * R ≤ v1 * R := Nat.mul_le_mul_right R (by omega); unfold R at *; omega)
    omega
  have hqR : q < R := by rw [hq, Nat.div_lt_iff_lt_mul hVpos, Nat.mul_comm]; exact hlt
  have hu1v1 : u1 ≤ v1 := by
    rcases Nat.lt_or_ge v1 u1 with h | h
    · exfalso
      have h1 : (T * R + u3) * R ^ k ≤ val U := by rw [eU, Nat.mul_comm]; omega
      have h2 : val V * R ≤ R ^ k * (v1 * R + v2 + 1) * R := Nat.mul_le_mul_right R (by rw [eV, Nat.mul_add_one]; omega)
      have h3 : R ^ k * (v1 * R + v2 + 1) * R = ((v1 * R + v2 + 1) * R) * R ^ k := by rw [Nat.mul_assoc, Nat.mul_comm]
      have h4 : (v1 * R + v2 + 1) * R ≤ T * R + u3 := by
        have : v1 * R + v2 + 1 ≤ T := by
          rw [hT]
          have : (v1 + 1) * R ≤ u1 * R := Nat.mul_le_mul_right R h
          rw [Nat.add_mul] at this
          omega
        have := Nat.mul_le_mul_right R this
        omega
      have h5 := Nat.mul_le_mul_right (R ^ k) h4
      omega
    · exact h
  have hTle : T ≤ v1 * R + (R - 1) := by
    rw [hT]
    have := Nat.mul_le_mul_right R hu1v1
    omega
  have hR : R = 4294967296 := rfl
  have HPAIR := Lib.hid hpair
  have HQR := Lib.hid hqR
  have HTL := Lib.hid hTle
  have HQ := Lib.hid hq
  have v1p : 0 < v1 := by omega
  have e0 : Hid (bits .or .u64 ((u1 : Int) * 4294967296) (u2 : Int) = (T : Int)) := Lib.hid (by
    have := u64_or_nat (u1 * 4294967296) u2 (by omega) (by omega)
    rw [show ((u1 : Int) * 4294967296) = ((u1 * 4294967296 : Nat) : Int) by omega, this, nat_join 32 (u1 * 4294967296) u2 (by omega) (by omega), hT, hR])
  have hT64 : (T : Int) ≤ 18446744073709551615 := by
    have h := hTle
    rw [hR] at h
    omega
  obtain ⟨d0, hd0⟩ : ∃ d0, d0 = T / v1 := ⟨_, rfl⟩
  obtain ⟨r0, hr0⟩ : ∃ r0, r0 = T % v1 := ⟨_, rfl⟩
  have Q0 : Hid (IntKind.u64.wrap ((T : Int) / (v1 : Int)) = (d0 : Int)) := Lib.hid (by
    rw [hd0, IntKind.wrap_u64, ← Int.natCast_ediv]
    have : T / v1 ≤ T := Nat.div_le_self _ _
    apply Int.emod_eq_of_lt (Int.natCast_nonneg _)
    have h2 : ((T / v1 : Nat) : Int) ≤ (T : Int) := Int.ofNat_le.2 this
    omega)
  have R0 : Hid ((T : Int) % (v1 : Int) = (r0 : Int)) := Lib.hid (by rw [hr0]; exact (Int.natCast_emod ..).symm)
  have D0 : Hid ((T : Int) / (v1 : Int) = (d0 : Int)) := Lib.hid (by rw [hd0]; exact (Int.natCast_ediv ..).symm)
  have st : Hid (d0 * v1 + r0 = T ∧ r0 < R ∧ q ≤ d0) := Lib.hid
    ⟨by rw [hd0, hr0, Nat.mul_comm]; exact Nat.div_add_mod _ _, by rw [hr0]; exact Nat.lt_trans (Nat.mod_lt _ v1p) m1, by rw [hd0]; exact (Nat.le_div_iff_mul_le v1p).2 hone⟩
  have dT : (d0 : Int) ≤ 18446744073709551615 := by
    have : d0 ≤ T := by rw [hd0]; exact Nat.div_le_self _ _
    omega
  clear hd0 hr0
  have u14 : (u1 : Int) ≤ 4294967295 := by omega
  have u24 : (u2 : Int) ≤ 4294967295 := by omega
  have u34 : (u3 : Int) ≤ 4294967295 := by omega
  have v14 : (v1 : Int) ≤ 4294967295 := by omega
  have v24 : (v2 : Int) ≤ 4294967295 := by omega
  have v11 : (1 : Int) ≤ (v1 : Int) := by omega
  have hke : ((k + 3 : Nat) : Int) = (k : Int) + 3 := by omega
  have HR := Lib.hid hR
  clear hpair hqR hTle hq hone hqV eV eU tV tU hu1v1 hT hcc hcc' hlt hVpos hR
  go_enter Tryd.func128, Tryd.ntmps128
  go_wp2_with fail
  go_quiet (fail)
  go_wp2_with fail
  rw [e0.out]
  go_quiet (fail)
  go_wp2_with fail
  rw [Q0.out, R0.out]
  simp only [show k + 2 - 1 = k + 1 from rfl]
  go_loopw [7, 8] (fun dv rv wr => EstRel v1 q T w dv rv wr)
    (fun dv _ _ => estMu dv)
  case atStart => exact ⟨d0, r0, rfl, rfl, st.out.1, st.out.2.1, st.out.2.2, (by repeat (first | exact Dr.refl _ | apply Dr.drewN))⟩
  case round =>
    clear Q0 R0 D0 st dT
    obtain ⟨d, r, rfl, rfl, hdr, hrR, hqd, nd, rfl⟩ := hrel
    have hR := HR.out
    have HDR := Lib.hid hdr
    have r4 : (r : Int) ≤ 4294967295 := by omega
    have hdT : d ≤ T := by
      have : d * 1 ≤ d * v1 := Nat.mul_le_mul_left d v1p
      omega
    have d64 : (d : Int) ≤ 18446744073709551615 := by omega
    have step : ∀ (hd1 : 1 ≤ d) (hq1 : q ≤ d - 1), (d - 1) * v1 + (r + v1) = T := by
      intro h1 h2
      obtain ⟨d', rfl⟩ : ∃ d', d = d' + 1 := ⟨d - 1, by omega⟩
      rw [Nat.add_sub_cancel]
      have := HDR.out
      rw [Nat.add_mul] at this
      omega
    have hbig : R ≤ d - 1 → r + v1 < R := by
      intro h
      have h1 := step (by omega) (by have := HQR.out; omega)
      have h2 : R * v1 ≤ (d - 1) * v1 := Nat.mul_le_mul_right v1 h
      have h3 := HTL.out
      rw [Nat.mul_comm v1] at h3
      omega
    have STEP := Lib.hid step
    have HBIG := Lib.hid hbig
    clear hdr step hbig hdT
    by_cases hA : R ≤ d
    · have hA2 : (4294967296 : Int) ≤ (d : Int) := by omega
      have hgd : decide ((4294967296 : Int) ≤ (d : Int)) = true := decide_eq_true hA2
      have hqd1 : q ≤ d - 1 := by have := HQR.out; omega
      have hd1 : 1 ≤ d := by omega
      by_cases hbrk : R ≤ r + v1
      · have hb2 : (4294967296 : Int) ≤ (r : Int) + (v1 : Int) := by omega
        have hb3 : decide ((4294967296 : Int) ≤ (r : Int) + (v1 : Int)) = true := decide_eq_true hb2
        have hres : d - 1 < R := by
          rcases Nat.lt_or_ge (d - 1) R with h | h
          · exact h
          · have := HBIG.out h; omega
        have HRES := Lib.hid hres
        clear hres hbrk hR
        go_wp2_with fail
        go_quiet (fail)
        go_wp2_with fail
        go_ret
        exact ⟨d - 1, by refine congrArg Ending.returned (congrArg (Value.int .u64) ?_); show (d : Int) - 1 = _; omega, by rw [← HQ.out]; exact hqd1, HRES.out, (by repeat (first | exact Dr.refl _ | apply Dr.drewN))⟩
      · have hb2 : ¬ (4294967296 : Int) ≤ (r : Int) + (v1 : Int) := by omega
        have hb3 : decide ((4294967296 : Int) ≤ (r : Int) + (v1 : Int)) = false := decide_eq_false hb2
        have S := Lib.hid (STEP.out hd1 hqd1)
        have HB := Lib.hid hbrk
        clear hbrk hR
        go_wp2_with fail
        go_quiet (fail)
        go_wp2_with fail
        go_roundw
        case rel => exact ⟨d - 1, r + v1, by go_num, by go_num, S.out, Nat.not_le.1 HB.out, hqd1, (by repeat (first | exact Dr.refl _ | apply Dr.drewN))⟩
        case measure => simp [estMu, intOf]; omega
    · have hA2 : ¬ (4294967296 : Int) ≤ (d : Int) := by omega
      have hgd : decide ((4294967296 : Int) ≤ (d : Int)) = false := decide_eq_false hA2
      have hsq := mul_lt_sq (show d < R by omega) m2
      obtain ⟨p2, hp2⟩ : ∃ p2, p2 = d * v2 := ⟨_, rfl⟩
      have hp3 : ((d : Int) * (v2 : Int)) = (p2 : Int) := by rw [hp2, Int.natCast_mul]
      rw [← hp2] at hsq
      have HP2 := Lib.hid hp2
      have e1 : Hid (bits .or .u64 ((r : Int) * 4294967296) (u3 : Int) = ((r * R + u3 : Nat) : Int)) := Lib.hid (by
        have := u64_or_nat (r * 4294967296) u3 (by omega) (by omega)
        rw [show ((r : Int) * 4294967296) = ((r * 4294967296 : Nat) : Int) by omega, this, nat_join 32 (r * 4294967296) u3 (by omega) (by omega), hR])
      clear hp2
      by_cases hgt : r * R + u3 < p2
      · have hqd1 : q ≤ d - 1 := est_down HPAIR.out HDR.out hqd (by rw [← HP2.out]; exact hgt)
        have hd1 : 1 ≤ d := by
          rcases Nat.eq_zero_or_pos d with h | h
          · rw [HP2.out, h] at hgt; omega
          · exact h
        have hg2 : bits .or .u64 ((r : Int) * 4294967296) (u3 : Int) < (p2 : Int) := by rw [e1.out]; omega
        have hg3 : decide (bits .or .u64 ((r : Int) * 4294967296) (u3 : Int) < (p2 : Int)) = true := decide_eq_true hg2
        by_cases hbrk : R ≤ r + v1
        · have hb2 : (4294967296 : Int) ≤ (r : Int) + (v1 : Int) := by omega
          have hb3 : decide ((4294967296 : Int) ≤ (r : Int) + (v1 : Int)) = true := decide_eq_true hb2
          have HLT := Lib.hid (show d - 1 < R by omega)
          clear hbrk hgt hR
          go_wp2_with fail
          go_quiet (fail)
          go_wp2_with fail
          go_ret
          exact ⟨d - 1, by refine congrArg Ending.returned (congrArg (Value.int .u64) ?_); show (d : Int) - 1 = _; omega, by rw [← HQ.out]; exact hqd1, HLT.out, (by repeat (first | exact Dr.refl _ | apply Dr.drewN))⟩
        · have hb2 : ¬ (4294967296 : Int) ≤ (r : Int) + (v1 : Int) := by omega
          have hb3 : decide ((4294967296 : Int) ≤ (r : Int) + (v1 : Int)) = false := decide_eq_false hb2
          have S := Lib.hid (STEP.out hd1 hqd1)
          have HB := Lib.hid hbrk
          clear hgt hbrk hR
          go_wp2_with fail
          go_quiet (fail)
          go_wp2_with fail
          go_roundw
          case rel => exact ⟨d - 1, r + v1, by go_num, by go_num, S.out, Nat.not_le.1 HB.out, hqd1, (by repeat (first | exact Dr.refl _ | apply Dr.drewN))⟩
          case measure => simp [estMu, intOf]; omega
      · have hg2 : ¬ bits .or .u64 ((r : Int) * 4294967296) (u3 : Int) < (p2 : Int) := by rw [e1.out]; omega
        have hg3 : decide (bits .or .u64 ((r : Int) * 4294967296) (u3 : Int) < (p2 : Int)) = false := decide_eq_false hg2
        have HLT := Lib.hid (show d < R by omega)
        clear hgt hR
        go_wp2_with fail
        go_quiet (fail)
        go_wp2_with fail
        go_ret
        exact ⟨d, rfl, by rw [← HQ.out]; exact hqd, HLT.out, (by repeat (first | exact Dr.refl _ | apply Dr.drewN))⟩
end Go.Proofs.YtlolkighnnedfaaDoor
/- nat.Add, Sub, Mul, by their contracts. -/
set_option linter.unusedVariables false
set_option linter.unusedSimpArgs false
namespace Go.Proofs.YtlolkighnnedfaaDoor
open Go.RowKit Go.Sg

set_option maxHeartbeats 2000000 in
theorem Add_c (a a' : Option Addr) (cap cap' : Nat) (xs ys : List Int) (w : World) (hc : Sl .u32 w a cap xs) (hc' : Sl .u32 w a' cap' ys) (ux : U32 xs) (uy : U32 ys) (hl : xs.length ≤ 35184372088832) (hl' : ys.length ≤ 35184372088832) :
    Calls Tryd.prog 43 #[.slice a xs.length cap, .slice a' ys.length cap'] w (NatPost (val xs + val ys) w) := by
  go_enter Tryd.func43, Tryd.ntmps43
  go_wp2_with fail
  refine (value_c a cap xs _ hc).mono ?_; rintro e w' ⟨rfl, rfl⟩
  go_wp2_with fail
  refine (value_c a' cap' ys _ hc').mono ?_; rintro e w' ⟨rfl, rfl⟩
  have hx := Sl.norm hc
  have hy := Sl.norm hc'
  have es : Hid (val (norm xs) + val (norm ys) = val xs + val ys) := Lib.hid (by rw [val_norm, val_norm])
  have vx := ux.norm
  have vy := uy.norm
  have hlx : (norm xs).length ≤ 35184372088832 := by rw [length_norm]; have := topz_le xs; omega
  have hly : (norm ys).length ≤ 35184372088832 := by rw [length_norm]; have := topz_le ys; omega
  clear ux uy
  generalize norm xs = x at *
  generalize norm ys = y at *
  by_cases hsw : x.length < y.length
  · go_wp2_with (at_make; refine wpList_make_blk _ rfl _ _ 26 rfl 36 .u32 4 Tryd.underlying26 info32 (y.length + 1) _ _ rfl rfl (by omega) (by omega) (by omega) (by omega) ?_)
    intro w1 hk1 hs1 hb1
    have HS := Lib.hid hs1
    obtain ⟨m, hm⟩ : ∃ m, m = y.length := ⟨_, rfl⟩
    have HM := Lib.hid hm
    have hYm : x.length ≤ m := by omega
    clear hs1 hm
    go_wp2_with fail
    go_loopw [8, 28] (fun c t wr => ∃ (i cn : Nat) (L : List Int), i ≤ y.length ∧ t = .int .i64 (i : Int) ∧ c = .int .u64 (cn : Int) ∧ cn ≤ 1 ∧ Blk wr w.heap.size .u32 36 L ∧ L.length = m + 1 ∧ U32 L ∧
        val (L.take i) + R ^ i * cn = val (y.take i) + val (x.take i) ∧ Below w.heap.size w wr)
      (fun _ t _ => y.length - (intOf t).toNat)
    case atStart => exact ⟨0, 0, _, by omega, rfl, rfl, by omega, hk1, by have := HM.out; simp; omega, .zeros (by omega) _, by simp [val], hb1⟩
    case round =>
      obtain ⟨i, cn, L, hi, rfl, rfl, hcn, hL, hLl, uL, hval, hb⟩ := hrel
      have HL := Lib.hid hLl
      have HV := Lib.hid hval
      clear hLl hval
      by_cases hlt : i < y.length
      · obtain ⟨bx, ox, rfl, hcc⟩ := hy.cells (by omega)
        have hcx := (hb.cell (World.block_lt_of_cell? w _ (hcc i hlt))).trans (hcc i hlt)
        have hcl := hL.cell i (by have := HL.out; have := HM.out; omega)
        have hfr := hL.free i
        have hxl := lb_lt vy i
        have hyl := lb_lt vx i
        have XC := Lib.hid (lb_cast vy i)
        have YC := Lib.hid (lb_cast vx i)
        rw [← XC.out] at hcx
        have hxi : ((lb y i : Nat) : Int) ≤ 4294967295 := by unfold R at hxl; omega
        have hyi : ((lb x i : Nat) : Int) ≤ 4294967295 := by unfold R at hyl; omega
        have hiL : i < L.length := by have := HL.out; have := HM.out; omega
        have him : (i : Int) < (m : Int) + 1 := by have := HM.out; omega
        have fin : ∀ (s : Nat), s = cn + lb y i + lb x i →
            (s / R ≤ 1 ∧ U32 (L.set i (((s % R : Nat) : Int))) ∧ val ((L.set i ((s % R : Nat) : Int)).take (i + 1)) + R ^ (i + 1) * (s / R) = val (y.take (i + 1)) + val (x.take (i + 1))) := by
          intro s hs
          refine ⟨?_, uL.set _ (by omega) (by unfold R; omega), ?_⟩
          · rw [hs]; unfold R at hxl hyl ⊢; omega
          · rw [val_take_set_succ _ _ _ hiL, val_take_next, val_take_next, Rpow_next, Int.toNat_natCast, hs]
            exact add_step HV.out
        have FIN := Lib.hid fin
        have hcni : (cn : Int) ≤ 1 := by omega
        clear hcc fin hiL hxl hyl
        by_cases hin : i < x.length
        · obtain ⟨by_, oy, rfl, hcc⟩ := hx.cells (by omega)
          have hcy := (hb.cell (World.block_lt_of_cell? w _ (hcc i hin))).trans (hcc i hin)
          rw [← YC.out] at hcy
          have s0 : Hid (((cn : Int) + (lb y i : Nat) + (lb x i : Nat)) % 4294967296 = (((cn + lb y i + lb x i) % R : Nat) : Int)) := Lib.hid (by unfold R; omega)
          have s1 : Hid (((cn : Int) + (lb y i : Nat) + (lb x i : Nat)) / 4294967296 = (((cn + lb y i + lb x i) / R : Nat) : Int)) := Lib.hid (by unfold R; omega)
          clear hcc
          go_wp2_with fail
          go_roundw
          case rel =>
            obtain ⟨f1, f2, f3⟩ := FIN.out _ rfl
            exact ⟨i + 1, (cn + lb y i + lb x i) / R, L.set i (((cn + lb y i + lb x i) % R : Nat) : Int), by omega, by go_num, by rw [s1.out], f1, by rw [s0.out]; exact hL.set _ _, by have := HL.out; simpa using this, f2, f3, hb.setCell (Nat.le_refl _) _⟩
          case measure => simp [intOf]; omega
        · have h0 : lb x i = 0 := by rw [lb, nth_out _ _ (by omega)]; rfl
          have H0 := Lib.hid h0
          have s0 : Hid (((cn : Int) + (lb y i : Nat)) % 4294967296 = (((cn + lb y i) % R : Nat) : Int)) := Lib.hid (by unfold R; omega)
          have s1 : Hid (((cn : Int) + (lb y i : Nat)) / 4294967296 = (((cn + lb y i) / R : Nat) : Int)) := Lib.hid (by unfold R; omega)
          clear h0
          go_wp2_with fail
          go_roundw
          case rel =>
            obtain ⟨f1, f2, f3⟩ := FIN.out (cn + lb y i) (by rw [H0.out]; rfl)
            exact ⟨i + 1, (cn + lb y i) / R, L.set i (((cn + lb y i) % R : Nat) : Int), by omega, by go_num, by rw [s1.out], f1, by rw [s0.out]; exact hL.set _ _, by have := HL.out; simpa using this, f2, f3, hb.setCell (Nat.le_refl _) _⟩
          case measure => simp [intOf]; omega
      · obtain rfl : i = y.length := by omega
        have hcl := hL.cell y.length (by have := HL.out; have := HM.out; omega)
        have hfr := hL.free y.length
        have hL' := hL.set y.length (cn : Int)
        have uL' : U32 (L.set y.length (cn : Int)) := uL.set _ (by omega) (by omega)
        have hlen' : Hid ((L.set y.length (cn : Int)).length = y.length + 1) := Lib.hid (by have := HL.out; have := HM.out; simp; omega)
        have hv : Hid (val (L.set y.length (cn : Int)) = val xs + val ys) := Lib.hid (by
          have e := val_take_set_succ L y.length (cn : Int) (by have := HL.out; have := HM.out; omega)
          rw [List.take_of_length_le (by rw [hlen'.out]; omega), Int.toNat_natCast] at e
          rw [e, HV.out, List.take_length, List.take_of_length_le (by have := HM.out; omega), ← es.out, Nat.add_comm])
        have HSL : Hid (Sl .u32 (wr.setCell ⟨w.heap.size, y.length, none⟩ (.int .u32 (cn : Int))) (some ⟨w.heap.size, 0, none⟩) (y.length + 1) (L.set y.length (cn : Int))) := Lib.hid (by
          have := hL'.sl_full (by rw [hlen'.out]; omega); rwa [hlen'.out] at this)
        have hcnm : (cn : Int) % 4294967296 = cn := by omega
        have him : (y.length : Int) < (y.length : Int) + 1 := by omega
        have hb' := hb.setCell (p := ⟨w.heap.size, y.length, none⟩) (Nat.le_refl _) (.int .u32 (cn : Int))
        have pc := proper_c _ _ _ _ HSL.out
        rw [hlen'.out] at pc
        clear hL uL hb
        go_wp2_with fail
        refine pc.mono ?_; rintro e w' ⟨rfl, rfl⟩
        go_wp2_with fail
        go_ret
        exact ⟨_, rfl, .of_blk hL' (Nat.le_refl _) uL' hv.out (by rw [hlen'.out]; omega), hb'⟩
  · go_wp2_with (at_make; refine wpList_make_blk _ rfl _ _ 26 rfl 36 .u32 4 Tryd.underlying26 info32 (x.length + 1) _ _ rfl rfl (by omega) (by omega) (by omega) (by omega) ?_)
    intro w1 hk1 hs1 hb1
    have HS := Lib.hid hs1
    obtain ⟨m, hm⟩ : ∃ m, m = x.length := ⟨_, rfl⟩
    have HM := Lib.hid hm
    have hYm : y.length ≤ m := by omega
    clear hs1 hm
    go_wp2_with fail
    go_loopw [8, 28] (fun c t wr => ∃ (i cn : Nat) (L : List Int), i ≤ x.length ∧ t = .int .i64 (i : Int) ∧ c = .int .u64 (cn : Int) ∧ cn ≤ 1 ∧ Blk wr w.heap.size .u32 36 L ∧ L.length = m + 1 ∧ U32 L ∧
        val (L.take i) + R ^ i * cn = val (x.take i) + val (y.take i) ∧ Below w.heap.size w wr)
      (fun _ t _ => x.length - (intOf t).toNat)
    case atStart => exact ⟨0, 0, _, by omega, rfl, rfl, by omega, hk1, by have := HM.out; simp; omega, .zeros (by omega) _, by simp [val], hb1⟩
    case round =>
      obtain ⟨i, cn, L, hi, rfl, rfl, hcn, hL, hLl, uL, hval, hb⟩ := hrel
      have HL := Lib.hid hLl
      have HV := Lib.hid hval
      clear hLl hval
      by_cases hlt : i < x.length
      · obtain ⟨bx, ox, rfl, hcc⟩ := hx.cells (by omega)
        have hcx := (hb.cell (World.block_lt_of_cell? w _ (hcc i hlt))).trans (hcc i hlt)
        have hcl := hL.cell i (by have := HL.out; have := HM.out; omega)
        have hfr := hL.free i
        have hxl := lb_lt vx i
        have hyl := lb_lt vy i
        have XC := Lib.hid (lb_cast vx i)
        have YC := Lib.hid (lb_cast vy i)
        rw [← XC.out] at hcx
        have hxi : ((lb x i : Nat) : Int) ≤ 4294967295 := by unfold R at hxl; omega
        have hyi : ((lb y i : Nat) : Int) ≤ 4294967295 := by unfold R at hyl; omega
        have hiL : i < L.length := by have := HL.out; have := HM.out; omega
        have him : (i : Int) < (m : Int) + 1 := by have := HM.out; omega
        have fin : ∀ (s : Nat), s = cn + lb x i + lb y i →
            (s / R ≤ 1 ∧ U32 (L.set i (((s % R : Nat) : Int))) ∧ val ((L.set i ((s % R : Nat) : Int)).take (i + 1)) + R ^ (i + 1) * (s / R) = val (x.take (i + 1)) + val (y.take (i + 1))) := by
          intro s hs
          refine ⟨?_, uL.set _ (by omega) (by unfold R; omega), ?_⟩
          · rw [hs]; unfold R at hxl hyl ⊢; omega
          · rw [val_take_set_succ _ _ _ hiL, val_take_next, val_take_next, Rpow_next, Int.toNat_natCast, hs]
            exact add_step HV.out
        have FIN := Lib.hid fin
        have hcni : (cn : Int) ≤ 1 := by omega
        clear hcc fin hiL hxl hyl
        by_cases hin : i < y.length
        · obtain ⟨by_, oy, rfl, hcc⟩ := hy.cells (by omega)
          have hcy := (hb.cell (World.block_lt_of_cell? w _ (hcc i hin))).trans (hcc i hin)
          rw [← YC.out] at hcy
          have s0 : Hid (((cn : Int) + (lb x i : Nat) + (lb y i : Nat)) % 4294967296 = (((cn + lb x i + lb y i) % R : Nat) : Int)) := Lib.hid (by unfold R; omega)
          have s1 : Hid (((cn : Int) + (lb x i : Nat) + (lb y i : Nat)) / 4294967296 = (((cn + lb x i + lb y i) / R : Nat) : Int)) := Lib.hid (by unfold R; omega)
          clear hcc
          go_wp2_with fail
          go_roundw
          case rel =>
            obtain ⟨f1, f2, f3⟩ := FIN.out _ rfl
            exact ⟨i + 1, (cn + lb x i + lb y i) / R, L.set i (((cn + lb x i + lb y i) % R : Nat) : Int), by omega, by go_num, by rw [s1.out], f1, by rw [s0.out]; exact hL.set _ _, by have := HL.out; simpa using this, f2, f3, hb.setCell (Nat.le_refl _) _⟩
          case measure => simp [intOf]; omega
        · have h0 : lb y i = 0 := by rw [lb, nth_out _ _ (by omega)]; rfl
          have H0 := Lib.hid h0
          have s0 : Hid (((cn : Int) + (lb x i : Nat)) % 4294967296 = (((cn + lb x i) % R : Nat) : Int)) := Lib.hid (by unfold R; omega)
          have s1 : Hid (((cn : Int) + (lb x i : Nat)) / 4294967296 = (((cn + lb x i) / R : Nat) : Int)) := Lib.hid (by unfold R; omega)
          clear h0
          go_wp2_with fail
          go_roundw
          case rel =>
            obtain ⟨f1, f2, f3⟩ := FIN.out (cn + lb x i) (by rw [H0.out]; rfl)
            exact ⟨i + 1, (cn + lb x i) / R, L.set i (((cn + lb x i) % R : Nat) : Int), by omega, by go_num, by rw [s1.out], f1, by rw [s0.out]; exact hL.set _ _, by have := HL.out; simpa using this, f2, f3, hb.setCell (Nat.le_refl _) _⟩
          case measure => simp [intOf]; omega
      · obtain rfl : i = x.length := by omega
        have hcl := hL.cell x.length (by have := HL.out; have := HM.out; omega)
        have hfr := hL.free x.length
        have hL' := hL.set x.length (cn : Int)
        have uL' : U32 (L.set x.length (cn : Int)) := uL.set _ (by omega) (by omega)
        have hlen' : Hid ((L.set x.length (cn : Int)).length = x.length + 1) := Lib.hid (by have := HL.out; have := HM.out; simp; omega)
        have hv : Hid (val (L.set x.length (cn : Int)) = val xs + val ys) := Lib.hid (by
          have e := val_take_set_succ L x.length (cn : Int) (by have := HL.out; have := HM.out; omega)
          rw [List.take_of_length_le (by rw [hlen'.out]; omega), Int.toNat_natCast] at e
          rw [e, HV.out, List.take_length, List.take_of_length_le (by have := HM.out; omega), ← es.out])
        have HSL : Hid (Sl .u32 (wr.setCell ⟨w.heap.size, x.length, none⟩ (.int .u32 (cn : Int))) (some ⟨w.heap.size, 0, none⟩) (x.length + 1) (L.set x.length (cn : Int))) := Lib.hid (by
          have := hL'.sl_full (by rw [hlen'.out]; omega); rwa [hlen'.out] at this)
        have hcnm : (cn : Int) % 4294967296 = cn := by omega
        have him : (x.length : Int) < (x.length : Int) + 1 := by omega
        have hb' := hb.setCell (p := ⟨w.heap.size, x.length, none⟩) (Nat.le_refl _) (.int .u32 (cn : Int))
        have pc := proper_c _ _ _ _ HSL.out
        rw [hlen'.out] at pc
        clear hL uL hb
        go_wp2_with fail
        refine pc.mono ?_; rintro e w' ⟨rfl, rfl⟩
        go_wp2_with fail
        go_ret
        exact ⟨_, rfl, .of_blk hL' (Nat.le_refl _) uL' hv.out (by rw [hlen'.out]; omega), hb'⟩
end Go.Proofs.YtlolkighnnedfaaDoor
/- nat.Mul, Sub, by their contracts. -/
set_option linter.unusedVariables false
set_option linter.unusedSimpArgs false
namespace Go.Proofs.YtlolkighnnedfaaDoor
open Go.RowKit Go.Sg

set_option maxHeartbeats 2000000 in
theorem Mul_c (a a' : Option Addr) (cap cap' : Nat) (xs ys : List Int) (w : World) (hc : Sl .u32 w a cap xs) (hc' : Sl .u32 w a' cap' ys) (ux : U32 xs) (uy : U32 ys) (hl : xs.length ≤ 35184372088832) (hl' : ys.length ≤ 35184372088832) :
    Calls Tryd.prog 95 #[.slice a xs.length cap, .slice a' ys.length cap'] w (NatPost (val xs * val ys) w) := by
  go_enter Tryd.func95, Tryd.ntmps95
  go_wp2_with fail
  refine (value_c a cap xs _ hc).mono ?_; rintro e w' ⟨rfl, rfl⟩
  go_wp2_with fail
  refine (value_c a' cap' ys _ hc').mono ?_; rintro e w' ⟨rfl, rfl⟩
  have hx := Sl.norm hc
  have hy := Sl.norm hc'
  have es : Hid (val (norm xs) * val (norm ys) = val xs * val ys) := Lib.hid (by rw [val_norm, val_norm])
  have vx := ux.norm
  have vy := uy.norm
  have hlx : (norm xs).length ≤ 35184372088832 := by rw [length_norm]; have := topz_le xs; omega
  have hly : (norm ys).length ≤ 35184372088832 := by rw [length_norm]; have := topz_le ys; omega
  clear ux uy
  generalize norm xs = x at *
  generalize norm ys = y at *
  go_wp2_with (at_make; refine wpList_make_blk _ rfl _ _ 26 rfl 36 .u32 4 Tryd.underlying26 info32 (x.length + y.length) _ _ rfl rfl (by omega) (by omega) (by omega) (by omega) ?_)
  intro w1 hk1 hs1 hb1
  have HS := Lib.hid hs1
  obtain ⟨n, hn⟩ : ∃ n, n = y.length := ⟨_, rfl⟩
  rw [← hn] at hk1 hly hy ⊢
  have HN := Lib.hid hn
  clear hs1 hn
  go_wp2_with fail
  go_loopw [25] (fun t wr => ∃ (i : Nat) (L : List Int), i ≤ x.length ∧ t = .int .i64 (i : Int) ∧ Blk wr w.heap.size .u32 36 L ∧ L.length = x.length + n ∧ U32 L ∧
      val (L.take (i + n)) = val (x.take i) * val y ∧ Below w.heap.size w wr)
    (fun t _ => x.length - (intOf t).toNat)
  case atStart => exact ⟨0, _, by omega, rfl, hk1, by simp, .zeros (by omega) _, by rw [List.take_replicate, val_zeros]; simp [val], hb1⟩
  case round =>
    obtain ⟨i, L, hi, rfl, hL, hLl, uL, hval, hb⟩ := hrel
    have HL := Lib.hid hLl
    have HV := Lib.hid hval
    clear hLl hval
    by_cases hlt : i < x.length
    · obtain ⟨bx, ox, rfl, hcc⟩ := hx.cells (by omega)
      have hcx := (hb.cell (World.block_lt_of_cell? w _ (hcc i hlt))).trans (hcc i hlt)
      have XC := Lib.hid (lb_cast vx i)
      rw [← XC.out] at hcx
      have hxl := Lib.hid (lb_lt vx i)
      obtain ⟨p, hp⟩ : ∃ p, p = lb x i := ⟨_, rfl⟩
      have HP := Lib.hid hp
      rw [← hp] at hcx
      have hpR : p ≤ 4294967295 := by have := hxl.out; unfold R at this; omega
      clear hcc hp
      obtain ⟨wo, hwo⟩ : ∃ wo : World, wo = wr := ⟨_, rfl⟩
      subst hwo
      go_wp2_with fail
      go_loopw [10, 32] (fun c t wr => ∃ (j cn : Nat) (L : List Int), j ≤ n ∧ t = .int .i64 (j : Int) ∧ c = .int .u64 (cn : Int) ∧ cn < R ∧ Blk wr w.heap.size .u32 36 L ∧ L.length = x.length + n ∧ U32 L ∧
          val (L.take (i + n)) + R ^ (i + j) * cn = val (x.take i) * val y + R ^ i * (p * val (y.take j)) ∧ Below w.heap.size w wr)
        (fun _ t _ => n - (intOf t).toNat)
      case atStart => exact ⟨0, 0, L, by omega, rfl, rfl, by decide, hL, HL.out, uL, by rw [HV.out]; simp [val], hb⟩
      case round =>
        clear HV HL
        obtain ⟨j, cn, L, hj, rfl, rfl, hcn, hL, hLl, uL, hval, hb⟩ := hrel
        have HL := Lib.hid hLl
        have HV := Lib.hid hval
        clear hLl hval
        by_cases hjn : j < n
        · obtain ⟨by_, oy, rfl, hcc⟩ := hy.cells (by have := HN.out; omega)
          have hcy := (hb.cell (World.block_lt_of_cell? w _ (hcc j (by have := HN.out; omega)))).trans (hcc j (by have := HN.out; omega))
          have hiL : i + j < L.length := by have := HL.out; omega
          have hcl := hL.cell (i + j) hiL
          have hfr := hL.free (i + j)
          have YC := Lib.hid (lb_cast vy j)
          have OC := Lib.hid (lb_cast uL (i + j))
          rw [← YC.out] at hcy
          rw [← OC.out] at hcl
          have hyl := lb_lt vy j
          have hol := lb_lt uL (i + j)
          have hsq := mul_lt_sq (show p < R by unfold R; omega) hyl
          obtain ⟨q, hq⟩ : ∃ q, q = lb y j := ⟨_, rfl⟩
          obtain ⟨o, ho⟩ : ∃ o, o = lb L (i + j) := ⟨_, rfl⟩
          have HQ := Lib.hid hq
          have HO := Lib.hid ho
          rw [← hq] at hcy hyl hsq
          rw [← ho] at hcl hol
          have hqR : q ≤ 4294967295 := by unfold R at hyl; omega
          have hoR : o ≤ 4294967295 := by unfold R at hol; omega
          have hcR : cn ≤ 4294967295 := by unfold R at hcn; omega
          obtain ⟨pq, hpq⟩ : ∃ pq, pq = p * q := ⟨_, rfl⟩
          have hpq2 : ((p : Int) * (q : Int)) = (pq : Int) := by rw [hpq, Int.natCast_mul]
          rw [← hpq] at hsq
          have HPQ := Lib.hid hpq
          have s0 : Hid (((cn : Int) + ((pq : Int) + (o : Int))) % 4294967296 = (((cn + (pq + o)) % R : Nat) : Int)) := Lib.hid (by unfold R; omega)
          have s1 : Hid (((cn : Int) + ((pq : Int) + (o : Int))) / 4294967296 = (((cn + (pq + o)) / R : Nat) : Int)) := Lib.hid (by unfold R; omega)
          have fin : ∀ s, s = cn + (pq + o) → s / R < R ∧ U32 (L.set (i + j) ((s % R : Nat) : Int)) ∧
              val ((L.set (i + j) ((s % R : Nat) : Int)).take (i + n)) + R ^ (i + (j + 1)) * (s / R) = val (x.take i) * val y + R ^ i * (p * val (y.take (j + 1))) := by
            intro s hs
            refine ⟨by rw [hs]; unfold R; omega, uL.set _ (by omega) (by unfold R; omega), ?_⟩
            have e1 := val_take_set L (i + j) (i + n) ((s % R : Nat) : Int) (by omega) (by have := HL.out; omega)
            rw [Int.toNat_natCast, ← HO.out, hs, HPQ.out] at e1
            rw [← Nat.add_assoc, Rpow_next, hs, HPQ.out]
            refine mul_step HV.out _ e1 (Yp := R ^ j) (Nat.pow_add ..) _ ?_
            rw [val_take_next, ← HQ.out]
          have FIN := Lib.hid fin
          have hx1 : (i : Int) + (j : Int) < (x.length : Int) + (n : Int) := by omega
          clear hcc fin hq ho hpq hiL hyl hol hcn
          go_wp2_with fail
          go_roundw
          case rel =>
            obtain ⟨f1, f2, f3⟩ := FIN.out _ rfl
            exact ⟨j + 1, (cn + (pq + o)) / R, L.set (i + j) (((cn + (pq + o)) % R : Nat) : Int), by omega, by go_num, by rw [s1.out], f1, by rw [s0.out]; exact hL.set _ _, by have := HL.out; simpa using this, f2, f3, hb.setCell (Nat.le_refl _) _⟩
          case measure => simp [intOf]; omega
        · obtain rfl : j = n := by omega
          have hcR : cn ≤ 4294967295 := by unfold R at hcn; omega
          have hiL : i + j < L.length := by have := HL.out; omega
          have hcl := hL.cell (i + j) hiL
          have hfr := hL.free (i + j)
          have hL' := hL.set (i + j) (cn : Int)
          have uL' : U32 (L.set (i + j) (cn : Int)) := uL.set _ (by omega) (by omega)
          have hcnm : (cn : Int) % 4294967296 = cn := by omega
          have hx1 : (i : Int) + (j : Int) < (x.length : Int) + (j : Int) := by omega
          have hb' := hb.setCell (p := ⟨w.heap.size, i + j, none⟩) (Nat.le_refl _) (.int .u32 (cn : Int))
          have fin : Hid (val ((L.set (i + j) (cn : Int)).take (i + 1 + j)) = val (x.take (i + 1)) * val y) := Lib.hid (by
            rw [show i + 1 + j = (i + j) + 1 by omega, val_take_set_succ _ _ _ hiL, Int.toNat_natCast, HV.out, List.take_of_length_le (l := y) (by have := HN.out; omega), val_take_next, ← HP.out, Nat.add_mul]
            rw [Nat.mul_assoc])
          have hlen' : Hid ((L.set (i + j) (cn : Int)).length = x.length + j) := Lib.hid (by have := HL.out; simpa using this)
          clear hiL hL uL hb
          go_wp2_with fail
          go_roundw
          case rel => exact ⟨i + 1, _, by omega, by go_num, hL', hlen'.out, uL', fin.out, hb'⟩
          case measure => simp [intOf]; omega
    · obtain rfl : i = x.length := by omega
      have hv : Hid (val L = val xs * val ys) := Lib.hid (by
        have := HV.out
        rw [List.take_of_length_le (by rw [HL.out]; omega), List.take_length] at this
        rw [this, es.out])
      have pc := proper_c _ _ _ _ (hL.sl_full (by rw [HL.out]; omega))
      rw [HL.out] at pc
      go_wp2_with fail
      refine pc.mono ?_; rintro e w' ⟨rfl, rfl⟩
      go_wp2_with fail
      go_ret
      exact ⟨_, rfl, .of_blk hL (Nat.le_refl _) uL hv.out (by rw [HL.out]; omega), hb⟩

/-! ### Sub -/
theorem size32 : (Tryd.prog.info? 36).map (·.size) = some 1 := by
  obtain ⟨i, h, _, hs, _⟩ := info1 info32
  rw [h]; simp [hs]
/-- The difference, or nothing. -/
def SubPost (m n : Nat) (w : World) (e : Ending) (w' : World) : Prop :=
  (n ≤ m → ∃ v, e = .returned (.tuple #[v, .bool true]) ∧ NatRes w.heap.size w' v (m - n)) ∧ (m < n → e = .returned (.tuple #[.slice none 0 0, .bool false])) ∧ Below w.heap.size w w'

set_option maxHeartbeats 2000000 in
theorem Sub_c (a a' : Option Addr) (cap cap' : Nat) (xs ys : List Int) (w : World) (hc : Sl .u32 w a cap xs) (hc' : Sl .u32 w a' cap' ys) (ux : U32 xs) (uy : U32 ys) (hl : xs.length ≤ 35184372088832) (hl' : ys.length ≤ 35184372088832) :
    Calls Tryd.prog 115 #[.slice a xs.length cap, .slice a' ys.length cap'] w (SubPost (val xs) (val ys) w) := by
  go_enter Tryd.func115, Tryd.ntmps115
  go_wp2_with fail
  refine (Cmp_c a a' cap cap' xs ys _ hc hc' ux uy).mono ?_; rintro e w0 ⟨rfl, hd0⟩
  by_cases hlt : val xs < val ys
  · rw [cmpI_lt hlt]
    have HLT := Lib.hid hlt
    clear hlt
    go_wp2_with fail
    go_ret2
    exact ⟨fun h => absurd HLT.out (Nat.not_lt.2 h), fun _ => rfl, hd0.belowB⟩
  · have hge : ¬ cmpI (val xs) (val ys) < 0 := by unfold cmpI; rw [if_neg hlt]; split <;> omega
    have hrg := cmpI_rng (val xs) (val ys)
    have HLT := Lib.hid hlt
    generalize cmpI (val xs) (val ys) = cc at *
    clear hlt
    have hx0 := hc.below hd0.below
    have hy0 := hc'.below hd0.below
    go_wp2_with fail
    refine (value_c a cap xs _ hx0).mono ?_; rintro e w' ⟨rfl, rfl⟩
    go_wp2_with fail
    refine (value_c a' cap' ys _ hy0).mono ?_; rintro e w' ⟨rfl, rfl⟩
    have hx := Sl.norm hx0
    have hy := Sl.norm hy0
    have ex : Hid (val (norm xs) = val xs) := Lib.hid (val_norm xs)
    have ey : Hid (val (norm ys) = val ys) := Lib.hid (val_norm ys)
    have vx := ux.norm
    have vy := uy.norm
    have cy := Canon.norm ys
    have hlx : (norm xs).length ≤ 35184372088832 := by rw [length_norm]; have := topz_le xs; omega
    have hly : (norm ys).length ≤ 35184372088832 := by rw [length_norm]; have := topz_le ys; omega
    clear ux uy hx0 hy0
    generalize norm xs = x at *
    generalize norm ys = y at *
    have hyx : Hid (y.length ≤ x.length) := Lib.hid (cy.len_lt vy (by rw [ey.out]; exact Nat.lt_of_le_of_lt (Nat.not_lt.1 HLT.out) (by rw [← ex.out]; exact val_lt vx)))
    go_wp2_with (at_make; refine wpList_make_blk _ rfl _ _ 26 rfl 36 .u32 4 Tryd.underlying26 info32 x.length _ _ rfl rfl rfl rfl (by omega) (by omega) ?_)
    intro w1 hk1 hs1 hb1
    have HS := Lib.hid hs1
    have hap := hy.apart (Nat.le_refl _)
    have hap' := hy.apart' (Nat.le_refl _)
    have hx1 := hx.below hb1
    have hy1 := hy.below hb1
    have hB1 := hd0.belowB (B := w.heap.size) |>.trans (hb1.mono hd0.below.size)
    have h0w : w.heap.size ≤ w0.heap.size := hd0.below.size
    clear hs1 hx hy hb1 hd0
    go_wp2_with (with_reducible refine wpList_copy_blk rfl _ _ 26 26 rfl 36 Tryd.underlying26 size32 _ w0.heap.size 0 _ _ _ _ _ rfl rfl .u32 _ x hk1 hx1.cells rfl (fun _ _ => rfl) (by simp) ?_)
    intro w2 hk2 hg2 hs2
    replace hk2 : Blk w2 w0.heap.size .u32 36 x := by simpa using hk2
    have hy2 := hy1.grown' hg2 hap'
    have ht := take_c w0.heap.size 0 x.length x.length x _ _ _ _ hk2 vx (by omega) (Nat.le_refl _) hy2 vy hap (by omega)
    have hB2 := hB1.grown hg2 hB1.size (by simp; omega)
    clear hk1 hx1 hy1 hg2 hs2 hy2 hap hap'
    go_wp2_with fail
    refine ht.mono ?_; rintro e w3 ⟨b, L', rfl, hb1, hk3, uL', hlen, _, hval, hg3⟩
    have hB3 := hB2.grown hg3 (by have := hk3.lt; have := hB2.size; omega) (by simp; omega)
    have HLN := Lib.hid hlen
    have hv : Hid (val L' = val xs - val ys) := Lib.hid (by
      rw [sub_zero_off, sub_zero_off, List.take_of_length_le (by omega), List.take_length, List.take_of_length_le hyx.out] at hval
      have h1 := val_lt vx
      have h2 := val_lt uL'
      rw [hlen] at h2
      have h3 := Nat.not_lt.1 HLT.out
      rw [← ex.out, ← ey.out] at h3 ⊢
      have hb0 : b = 0 := by
        rcases (show b = 0 ∨ b = 1 by omega) with h | h
        · exact h
        · rw [h] at hval; omega
      rw [hb0] at hval
      omega)
    clear hval hg3 ht hk2
    have pc := proper_c _ _ _ _ (hk3.sl_full (by rw [hlen]; omega))
    rw [hlen] at pc
    clear hlen
    go_wp2_with fail
    refine pc.mono ?_; rintro e w' ⟨rfl, rfl⟩
    go_wp2_with fail
    go_ret2
    refine ⟨fun _ => ⟨_, rfl, .of_blk hk3 h0w uL' hv.out (by rw [HLN.out]; omega)⟩, fun h => absurd h HLT.out, hB3⟩
end Go.Proofs.YtlolkighnnedfaaDoor
