/- signetref6: byteAt, Bytes, Fixed, FromUint, Uint, clamped, and signetlaw6.sameBytes, by their contracts. -/
import Derived.Test.YtadldaidbcdaeaaNatW
import Derived.Test.YtadldaidbcdaeaaRefF
set_option linter.unusedVariables false
set_option linter.unusedSimpArgs false
namespace Go.Sg
open Go.RowKit
theorem byt_down {n k : Nat} (h : n < 256 ^ (k + 1)) (h0 : byt n k = 0) : n < 256 ^ k := by
  have h1 : n / 256 ^ k < 256 := by rw [Nat.div_lt_iff_lt_mul (Nat.pow_pos (by decide))]; rwa [Nat.pow_succ, Nat.mul_comm] at h
  unfold byt at h0
  rw [Nat.mod_eq_of_lt h1] at h0
  rcases Nat.div_eq_zero_iff.1 h0 with h2 | h2
  · exact absurd h2 (Nat.ne_of_gt (Nat.pow_pos (by decide)))
  · exact h2
theorem byt_stop {n k : Nat} (h : n < 256 ^ (k + 1)) (h0 : byt n k ≠ 0) : blen n = k + 1 := by
  have h1 : 256 ^ k ≤ n := by
    refine Nat.not_lt.1 fun h2 => h0 ?_
    unfold byt
    rw [Nat.div_eq_of_lt h2]
  have e : ∀ m, 256 ^ m = 2 ^ (8 * m) := fun m => by rw [show (256 : Nat) = 2 ^ 8 from rfl, ← Nat.pow_mul]
  rw [e] at h h1
  have h2 := (bl_le_iff n (8 * (k + 1))).2 h
  have h3 : ¬ bl n ≤ 8 * k := fun h4 => by have := (bl_le_iff n (8 * k)).1 h4; omega
  unfold blen
  omega
theorem blen_zero {n : Nat} (h : n < 256 ^ 0) : blen n = 0 := by
  have : n = 0 := by simpa using h
  subst this
  rfl
theorem beN_take {n len i : Nat} (h : i < len) : (beN n len).take (i + 1) = (beN n len).take i ++ [((byt n (len - 1 - i) : Nat) : Int)] := by
  rw [take_succ_nth _ _ (by rw [beN_len]; exact h), nth_beN h]
theorem beN_more {n len j : Nat} (h : n < 256 ^ len) : beN n (j + len) = List.replicate j 0 ++ beN n len := by
  apply List.ext_getElem
  · simp [beN_len]
  · intro i h1 h2
    rw [beN_len] at h1
    have e := nth_beN (n := n) h1
    rw [nth_get _ _ (by rw [beN_len]; exact h1)] at e
    rw [e]
    by_cases hi : i < j
    · rw [List.getElem_append_left (by rw [List.length_replicate]; exact hi), List.getElem_replicate]
      have : byt n (j + len - 1 - i) = 0 := by
        unfold byt
        rw [Nat.div_eq_of_lt (Nat.lt_of_lt_of_le h (Nat.pow_le_pow_right (by decide) (by omega)))]
      rw [this]; rfl
    · rw [List.getElem_append_right (by rw [List.length_replicate]; omega)]
      simp only [List.length_replicate]
      have e2 := nth_beN (n := n) (len := len) (i := i - j) (by omega)
      rw [nth_get _ _ (by rw [beN_len]; omega)] at e2
      rw [e2, show j + len - 1 - i = len - 1 - (i - j) by omega]
end Go.Sg
namespace Go.Proofs.Ytadldaidbcdaeaa
open Go.RowKit Go.Sg

set_option maxHeartbeats 1000000 in
theorem rbyteAt_c (a : Option Addr) (cap i : Nat) (zs : List Int) (w : World) (hc : Sl .u32 w a cap zs) (ux : U32 zs) (hi : i ≤ 9223372036854775807) :
    Calls Try.prog 85 #[.slice a zs.length cap, .int .i64 (i : Int)] w fun e w' => e = .returned (.int .u8 (byt (val zs) i : Nat)) ∧ w = w' := by
  have lc := rlimb_c a cap (i / 4) zs w hc ux (by omega)
  rw [← lb_cast ux (i / 4)] at lc
  have lX := lb_lt ux (i / 4)
  have BY := Lib.hid (byt_limb ux i)
  obtain ⟨m, hm⟩ : ∃ m, m = lb zs (i / 4) := ⟨_, rfl⟩
  rw [← hm] at lc lX BY
  unfold R at lX
  have Eq : (i : Int) / 4 = ((i / 4 : Nat) : Int) := by omega
  have Er : Hid ((i : Int) % 4 = ((i % 4 : Nat) : Int)) := Lib.hid (by omega)
  obtain ⟨q, hq⟩ : ∃ q, q = i / 4 := ⟨_, rfl⟩
  obtain ⟨r, hr⟩ : ∃ r, r = i % 4 := ⟨_, rfl⟩
  rw [← hq] at lc Eq
  rw [← hr] at Er BY
  clear hm hq hr
  go_enter Try.func85, Try.ntmps85
  go_wp2_with fail
  refine lc.mono ?_; rintro e w' ⟨rfl, rfl⟩
  clear lc Eq
  go_wp2_with fail
  go_loop [5, 6] (fun u t => ∃ (k x : Nat), k ≤ r ∧ t = .int .i64 (k : Int) ∧ u = .int .u64 (x : Int) ∧ x < 4294967296 ∧ x = m / 2 ^ (8 * k)) (fun _ t => r - (intOf t).toNat)
  case atStart => exact ⟨0, m, by omega, rfl, rfl, lX, by simp⟩
  case round =>
    obtain ⟨k, x, hk, rfl, rfl, hx, hxk⟩ := hrel
    have HX := Lib.hid hxk
    clear hxk
    by_cases hlt : k < r
    · have hd : decide ((k : Int) < (i : Int) % 4) = true := decide_eq_true (by rw [Er.out]; omega)
      have hd2 : (k : Int) < (i : Int) % 4 := by rw [Er.out]; omega
      go_wp2_with fail
      go_round
      case rel => exact ⟨k + 1, x / 256, by omega, by go_num, by go_num, by omega, by rw [HX.out, Nat.div_div_eq_div_mul, show 8 * (k + 1) = 8 * k + 8 by omega, Nat.pow_add]⟩
      case measure => simp [intOf]; omega
    · obtain rfl : k = r := by omega
      have hd : decide ((k : Int) < (i : Int) % 4) = false := decide_eq_false (by rw [Er.out]; omega)
      have hd2 : ¬ (k : Int) < (i : Int) % 4 := by rw [Er.out]; omega
      go_wp2_with fail
      go_ret
      refine ⟨?_, rfl⟩
      rw [BY.out, ← HX.out]
      refine congrArg Ending.returned (congrArg (Value.int .u8) ?_)
      go_num

set_option maxHeartbeats 2000000 in
set_option maxRecDepth 20000 in
theorem rBytes_c (a : Option Addr) (cap : Nat) (zs : List Int) (w : World) (hc : Sl .u32 w a cap zs) (ux : U32 zs) (hl : zs.length ≤ 35184372088000) :
    Calls Try.prog 43 #[.slice a zs.length cap] w (NBytesPost (beN (val zs) (blen (val zs))) w) := by
  have bc := fun (i : Nat) (W : World) (s : Sl .u32 W a cap zs) (h : i ≤ 9223372036854775807) => rbyteAt_c a cap i zs W s ux h
  obtain ⟨n, hn⟩ : ∃ n, n = val zs := ⟨_, rfl⟩
  have hv : n < 256 ^ (4 * zs.length) := by rw [hn, ← R_pow_256]; exact val_lt ux
  rw [← hn] at bc ⊢
  obtain ⟨l, hl1⟩ : ∃ l, l = zs.length := ⟨_, rfl⟩
  rw [← hl1] at bc hl hv ⊢
  clear hn hl1
  go_enter Try.func43, Try.ntmps43
  go_wp2_with fail
  go_loop [3] (fun t => ∃ k : Nat, k ≤ 4 * l ∧ t = .int .i64 (k : Int) ∧ n < 256 ^ k) (fun t => (intOf t).toNat)
  case atStart => exact ⟨4 * l, Nat.le_refl _, by go_num, hv⟩
  case round =>
    obtain ⟨k, hk, rfl, hnk⟩ := hrel
    have K1 : (k : Int) ≤ 9223372036854775807 := by omega
    by_cases hk0 : k = 0
    · subst hk0
      have hz : Hid (blen n = 0) := Lib.hid (blen_zero hnk)
      clear hv hnk
      go_wp2_with fail
      go_loopw [4, 5] (fun v t wr => ∃ j : Nat, j ≤ 0 ∧ t = .int .i64 ((0 : Nat) - 1 - (j : Int)) ∧ New w.heap.size .u8 5 wr v ((beN n 0).take j) ∧ Below w.heap.size w wr) (fun _ t _ => (intOf t + 1).toNat)
      case atStart => exact ⟨0, by omega, by go_num, by rw [List.take_zero]; exact New.nil _ _ _ _, .refl _ _⟩
      case round =>
        obtain ⟨j, hj, rfl, hv2, hb⟩ := hrel
        have hbs := hb.size
        by_cases hjt : j < 0
        · exact absurd hjt (by omega)
        · obtain rfl : j = 0 := by omega
          have E1 : (((0 : Nat) : Int) - 1 - ((0 : Nat) : Int)) = -1 := by omega
          rw [E1]
          rw [List.take_of_length_le (by rw [beN_len]; omega)] at hv2
          clear E1
          go_wp2_with fail
          go_ret
          exact ⟨_, rfl, by rw [hz.out]; exact hv2, hb⟩
    · obtain ⟨k, rfl⟩ : ∃ j, k = j + 1 := ⟨k - 1, by omega⟩
      have hp : (0 : Int) < ((k + 1 : Nat) : Int) := by omega
      have hd : decide ((0 : Int) < ((k + 1 : Nat) : Int)) = true := decide_eq_true hp
      have b1 := bc k w hc (by omega)
      by_cases h0 : byt n k = 0
      · have hn2 := byt_down hnk h0
        rw [h0] at b1
        have NK := Lib.hid hn2
        clear hnk hn2 h0 bc hv
        go_wp2_with fail
        refine b1.mono ?_; rintro e w' ⟨rfl, rfl⟩
        clear b1
        go_wp2_with fail
        go_round
        case rel => exact ⟨k, by omega, by go_num, NK.out⟩
        case measure => simp [intOf]
      · have hz : Hid (blen n = k + 1) := Lib.hid (byt_stop hnk h0)
        obtain ⟨y, hy⟩ : ∃ y, y = byt n k := ⟨_, rfl⟩
        rw [← hy] at b1 h0
        have y0 : ((y : Int) == 0) = false := beq_false_of_ne (by omega)
        have y2 : decide ((y : Int) = 0) = false := decide_eq_false (by omega)
        have y1 : ¬ (y : Int) = 0 := by omega
        have HY := Lib.hid hy
        clear hy hv hnk
        go_wp2_with fail
        refine b1.mono ?_; rintro e w' ⟨rfl, rfl⟩
        clear b1
        go_wp2_with fail
        go_loopw [4, 5] (fun v t wr => ∃ j : Nat, j ≤ (k + 1) ∧ t = .int .i64 (((k + 1) : Nat) - 1 - (j : Int)) ∧ New w.heap.size .u8 5 wr v ((beN n (k + 1)).take j) ∧ Below w.heap.size w wr) (fun _ t _ => (intOf t + 1).toNat)
        case atStart => exact ⟨0, by omega, by go_num, by rw [List.take_zero]; exact New.nil _ _ _ _, .refl _ _⟩
        case round =>
          obtain ⟨j, hj, rfl, hv2, hb⟩ := hrel
          have hbs := hb.size
          by_cases hjt : j < (k + 1)
          · obtain ⟨i, hi⟩ : ∃ i, i = (k + 1) - 1 - j := ⟨_, rfl⟩
            have EI : ((((k + 1) : Nat) : Int) - 1 - (j : Int)) = (i : Int) := by omega
            rw [EI]
            have EI2 : Hid (((((k + 1) : Nat) : Int) - 1 - (j : Int)) = (i : Int)) := Lib.hid EI
            have b2 := bc i wr (hc.below hb) (by omega)
            have fin : Hid ((beN n ((k + 1))).take j ++ [((byt n i : Nat) : Int)] = (beN n ((k + 1))).take (j + 1)) := Lib.hid (by rw [beN_take hjt, hi])
            have hll : Hid (((beN n ((k + 1))).take j).length ≤ 140737488352000) := Lib.hid (by rw [List.length_take, beN_len]; omega)
            have hw1 : IntKind.i64.wrap ((i : Int) - 1) = (i : Int) - 1 := by rw [IntKind.wrap_i64]; omega
            have hge : decide ((0 : Int) ≤ (i : Int)) = true := decide_eq_true (by omega)
            obtain ⟨y, hy⟩ : ∃ y, y = byt n i := ⟨_, rfl⟩
            rw [← hy] at b2 fin
            obtain ⟨T, hT⟩ : ∃ T, T = (beN n ((k + 1))).take j := ⟨_, rfl⟩
            rw [← hT] at fin hll hv2
            have HI := Lib.hid hi
            clear EI hi hy hT
            go_wp2_with fail
            refine b2.mono ?_; rintro e w' ⟨rfl, rfl⟩
            clear b2
            go_wp2_with (at_builtin; refine wpList_append_new _ rfl _ _ 22 rfl w.heap.size 5 .u8 1 Try.underlying22 info8 _ _ rfl (hv2.alloc _) _ _ 1 [(y : Int)] rfl rfl (cells_one _ _ _ _ _ rfl) (by have := hll.out; simp; omega) (by have := hll.out; simp; omega) (by simp; omega) ?_)
            intro v' w' hv' hg' _
            have hlt1 := fun g hg => (hv2.lt g hg).1
            have hb' : Below w.heap.size w w' := (hb.alloc hbs _).grown hg' (by simp; omega) hlt1
            rw [fin.out] at hv'
            clear hv2 hg' hb
            go_wp2_with fail
            go_roundw
            case rel => exact ⟨j + 1, by omega, by have := EI2.out; go_num, hv', hb'⟩
            case measure => (have := EI2.out; simp [intOf]; try omega)
          · obtain rfl : j = (k + 1) := by omega
            have E1 : ((((k + 1) : Nat) : Int) - 1 - (((k + 1) : Nat) : Int)) = -1 := by omega
            rw [E1]
            rw [List.take_of_length_le (by rw [beN_len]; omega)] at hv2
            clear E1
            go_wp2_with fail
            go_ret
            exact ⟨_, rfl, by rw [hz.out]; exact hv2, hb⟩

set_option maxHeartbeats 1000000 in
theorem rFixed_c (a : Option Addr) (cap : Nat) (zs : List Int) (size : Int) (w : World) (hc : Sl .u32 w a cap zs) (ux : U32 zs) (hl : zs.length ≤ 35184372088000) (hs : -9223372036854775808 ≤ size ∧ size ≤ 9223372036854775807) :
    Calls Try.prog 36 #[.slice a zs.length cap, .int .i64 size] w (FixedPost (val zs) size w) := by
  obtain ⟨hs1, hs2⟩ := hs
  have bc := rBytes_c a cap zs w hc ux hl
  unfold NBytesPost at bc
  obtain ⟨n, hn⟩ : ∃ n, n = val zs := ⟨_, rfl⟩
  rw [← hn] at bc ⊢
  have lb := lt_blen n
  obtain ⟨k, hk⟩ : ∃ k, k = blen n := ⟨_, rfl⟩
  have hk2 : k ≤ 140737488352000 := by
    have h1 := (bl_le_iff n (32 * zs.length)).2 (by rw [hn, ← Rpow_two]; exact val_lt ux)
    rw [hk]; unfold blen; omega
  have HK := Lib.hid hk
  rw [← hk] at bc lb
  have HB := Lib.hid lb
  obtain ⟨B, hB⟩ : ∃ B, B = beN n k := ⟨_, rfl⟩
  have lB : Hid (B.length = k) := Lib.hid (by rw [hB, beN_len])
  rw [← hB] at bc
  have HBe := Lib.hid hB
  clear hn hk lb hB
  go_enter Try.func36, Try.ntmps36
  go_wp2_with fail
  refine bc.mono ?_; rintro e w1 ⟨v, rfl, hv, hb⟩
  obtain ⟨av, cv, rfl, sv⟩ := hv.sl
  rw [lB.out]
  clear bc
  by_cases h1 : size < 0
  · have hno := Lib.hid (show fitB n size = false from decide_eq_false (by omega))
    have d1 : decide (size < 0) = true := decide_eq_true h1
    go_wp2_with fail
    go_ret2
    exact .no hno.out rfl hb
  · by_cases h2 : 16384 < size
    · have hno := Lib.hid (show fitB n size = false from decide_eq_false (by omega))
      have d1 : decide (size < 0) = false := decide_eq_false (by omega)
      have d2 : decide (16384 < size) = true := decide_eq_true (by omega)
      go_wp2_with fail
      go_ret2
      exact .no hno.out rfl hb
    · obtain ⟨m, rfl⟩ := Int.eq_ofNat_of_zero_le (show 0 ≤ size by omega)
      have d1 : decide ((m : Int) < 0) = false := decide_eq_false (by omega)
      have d2 : decide (16384 < (m : Int)) = false := decide_eq_false (by omega)
      by_cases h3 : m < k
      · have hno := Lib.hid (show fitB n m = false from decide_eq_false (by rw [← HK.out]; omega))
        have d3 : decide ((m : Int) < (k : Int)) = true := decide_eq_true (by omega)
        go_wp2_with fail
        go_ret2
        exact .no hno.out rfl hb
      · have hyes := Lib.hid (show fitB n m = true from decide_eq_true (by rw [← HK.out]; omega))
        have d3 : decide ((m : Int) < (k : Int)) = false := decide_eq_false (by omega)
        have E1 : Hid (((m : Int) - (k : Int)) = ((m - k : Nat) : Int)) := Lib.hid (by omega)
        have hbs := hb.size
        go_wp2_with (at_make; refine wpList_make_blk _ rfl _ _ 22 rfl 5 .u8 1 Try.underlying22 info8 (m - k) _ _ rfl rfl E1.out E1.out (by omega) (by omega) ?_)
        intro w2 hk1 hs1 hb1
        have nz := New.of_blk hk1 hbs (m - k) (m - k) (Nat.le_refl _) (by rw [List.length_replicate]; omega) (by omega)
        rw [List.take_of_length_le (by rw [List.length_replicate]; omega)] at nz
        have sv2 := sv.below hb1
        have hb2 := hb.trans (hb1.mono hbs)
        have hbs2 := hb2.size
        clear hk1 hs1 hb1 hv
        go_wp2_with (at_builtin; refine wpList_append_new _ rfl _ _ 22 rfl w.heap.size 5 .u8 1 Try.underlying22 info8 _ _ rfl nz _ _ k B rfl lB.out.symm sv2.cells (by rw [List.length_replicate, lB.out]; omega) (by rw [List.length_replicate, lB.out]; omega) hbs2 ?_)
        intro v' w3 hv' hg' _
        have hb3 : Below w.heap.size w w3 := hb2.grown hg' hbs2 (fun g hg => (nz.lt g hg).1)
        clear nz hg'
        go_wp2_with fail
        go_ret2
        refine ⟨_, by rw [hyes.out]; first | done | rfl, ?_, hb3⟩
        unfold fixL
        rw [hyes.out, if_pos rfl, Int.toNat_natCast, show m = (m - k) + k by omega, beN_more HB.out, ← HBe.out]
        exact hv'

set_option maxHeartbeats 1000000 in
theorem rFromUint_c (u : Nat) (w : World) (hu : u < 18446744073709551616) :
    Calls Try.prog 45 #[.int .u64 (u : Int)] w (NatPost u w) := by
  have h0 : (0 : Int) ≤ (u : Int) := by omega
  have h1 : (u : Int) ≤ 18446744073709551615 := by omega
  have hk : Blk (w.alloc (.cells #[.int .u32 ((u : Int) % 4294967296), .int .u32 ((u : Int) / 4294967296)] 52)) w.heap.size .u32 52 [(u : Int) % 4294967296, (u : Int) / 4294967296] :=
    cells_new .u32 w 52 [(u : Int) % 4294967296, (u : Int) / 4294967296] #[.int .u32 ((u : Int) % 4294967296), .int .u32 ((u : Int) / 4294967296)] rfl _ rfl
  have hu32 : U32 [(u : Int) % 4294967296, (u : Int) / 4294967296] := .of_mem (by omega) (by simp; omega)
  have hv : val [(u : Int) % 4294967296, (u : Int) / 4294967296] = u := by
    simp only [val, R]; omega
  have hs := hk.sl_full (by simp)
  have hb := (Below.refl w.heap.size w).alloc (Nat.le_refl _) (.cells #[.int .u32 ((u : Int) % 4294967296), .int .u32 ((u : Int) / 4294967296)] 52)
  have pc := rProper_c _ _ _ _ hs (by simp)
  have HV := Lib.hid hv
  clear hv
  generalize hq : [(u : Int) % 4294967296, (u : Int) / 4294967296] = L at *
  have hL : L.length = 2 := by rw [← hq]; rfl
  rw [hL] at pc
  clear hq hL hs
  go_enter Try.func45, Try.ntmps45
  go_wp2_with fail
  refine pc.mono ?_; rintro e w' ⟨v, rfl, nv, hb2⟩
  clear pc
  go_wp2_with fail
  go_ret
  have hbs := hb.size
  exact ⟨_, rfl, ⟨norm L, nv.mono hbs, Canon.norm L, hu32.norm, by rw [val_norm, HV.out]⟩, hb.trans (hb2.mono hbs)⟩

def RUintPost (n : Nat) (w : World) (e : Ending) (w' : World) : Prop := e = .returned (.tuple #[.int .u64 (uintV n), .bool (uintB n)]) ∧ Below w.heap.size w w'
set_option maxHeartbeats 1000000 in
theorem rUint_c (a : Option Addr) (cap : Nat) (zs : List Int) (w : World) (hc : Sl .u32 w a cap zs) (ux : U32 zs) (hl : zs.length ≤ 35184372088000) :
    Calls Try.prog 38 #[.slice a zs.length cap] w (RUintPost (val zs) w) := by
  have pc := rProper_c a cap zs w hc (by omega)
  have cX := Canon.norm zs
  have uX := ux.norm
  have vX := val_norm zs
  unfold NewPost at pc
  obtain ⟨X, hX⟩ : ∃ X, X = norm zs := ⟨_, rfl⟩
  rw [← hX] at pc cX uX vX
  rw [← vX]
  clear hX vX
  go_enter Try.func38, Try.ntmps38
  go_wp2_with fail
  refine pc.mono ?_; rintro e w1 ⟨v, rfl, nv, hb⟩
  obtain ⟨av, cv, rfl, sv⟩ := nv.sl
  clear pc nv
  by_cases h2 : 2 < X.length
  · have hno : Hid (uintB (val X) = false ∧ uintV (val X) = 0) := Lib.hid (by
      have h3 := cX.ge uX (by omega)
      have h4 : R ^ 2 ≤ R ^ (X.length - 1) := Nat.pow_le_pow_right R_pos (by omega)
      exact ⟨decide_eq_false (by omega), if_neg (by omega)⟩)
    have hd : decide ((2 : Int) < (X.length : Int)) = true := decide_eq_true (by omega)
    go_wp2_with fail
    go_ret2
    exact ⟨by rw [hno.out.1, hno.out.2]; first | done | rfl, hb⟩
  · have l1 := rlimb_c av cv 1 X w1 sv uX (by omega)
    have l0 := rlimb_c av cv 0 X w1 sv uX (by omega)
    have b0 := lb_lt uX 0
    have b1 := lb_lt uX 1
    have yes : Hid (uintB (val X) = true ∧ uintV (val X) = ((lb X 0 + R * lb X 1 : Nat) : Int)) := Lib.hid (by
      have h3 := val_lt uX
      have h4 : R ^ X.length ≤ R ^ 2 := Nat.pow_le_pow_right R_pos (by omega)
      have e : val X = lb X 0 + R * lb X 1 := by
        have e1 := val_take_next X 0
        have e2 := val_take_next X 1
        rw [List.take_of_length_le (by omega)] at e2
        simp only [Nat.pow_one, Nat.pow_zero, Nat.one_mul, List.take_zero, val_nil, Nat.zero_add] at e1 e2
        omega
      exact ⟨decide_eq_true (by omega), by rw [← e]; exact if_pos (by omega)⟩)
    rw [← lb_cast uX] at l1 l0
    obtain ⟨x, hx⟩ : ∃ x, x = lb X 0 := ⟨_, rfl⟩
    obtain ⟨y, hy⟩ : ∃ y, y = lb X 1 := ⟨_, rfl⟩
    rw [← hx] at l0 b0 yes
    rw [← hy] at l1 b1 yes
    have hd : decide ((2 : Int) < (X.length : Int)) = false := decide_eq_false (by omega)
    unfold R at b0 b1
    clear hx hy
    go_wp2_with fail
    refine l1.mono ?_; rintro e w' ⟨rfl, rfl⟩
    go_wp2_with fail
    refine l0.mono ?_; rintro e w' ⟨rfl, rfl⟩
    clear l0 l1
    go_wp2_with fail
    go_ret2
    refine ⟨?_, hb⟩
    rw [yes.out.1, yes.out.2]
    have e : ((x + R * y : Nat) : Int) = (y : Int) * 4294967296 + (x : Int) := by unfold R; omega
    rw [e]
    first | done | rfl | go_num

theorem clampedM_c (k : Int) (w : World) (hk : -9223372036854775808 ≤ k ∧ k ≤ 9223372036854775807) :
    Calls Try.prog 86 #[.int .i64 k, .int .i64 131072] w fun e w' => e = .returned (.int .i64 (shK k : Nat)) ∧ w = w' := by
  obtain ⟨k1, k2⟩ := hk
  obtain ⟨s, hs⟩ : ∃ s, s = shK k := ⟨_, rfl⟩
  have hs0 : (s : Int) = min (max k 0) 131072 := by rw [hs]; unfold shK; omega
  rw [← hs]
  clear hs
  by_cases h1 : k < 0
  · obtain rfl : s = 0 := by omega
    clear hs0
    go_enter Try.func86, Try.ntmps86
    go_wp2_with fail
    go_ret
    exact ⟨rfl, rfl⟩
  · have d1 : decide (k < 0) = false := decide_eq_false h1
    by_cases h2 : 131072 < k
    · obtain rfl : s = 131072 := by omega
      have d2 : decide (131072 < k) = true := decide_eq_true h2
      clear hs0
      go_enter Try.func86, Try.ntmps86
      go_wp2_with fail
      go_ret
      exact ⟨rfl, rfl⟩
    · obtain rfl : (s : Int) = k := by omega
      have d2 : decide (131072 < (s : Int)) = false := decide_eq_false h2
      clear hs0
      go_enter Try.func86, Try.ntmps86
      go_wp2_with fail
      go_ret
      exact ⟨rfl, rfl⟩
theorem clampedN_c (k : Int) (w : World) (hk : -9223372036854775808 ≤ k ∧ k ≤ 9223372036854775807) :
    Calls Try.prog 86 #[.int .i64 k, .int .i64 (-1)] w fun e w' => e = .returned (.int .i64 (shD k : Nat)) ∧ w = w' := by
  obtain ⟨k1, k2⟩ := hk
  have hs0 := max0 k
  obtain ⟨s, hs⟩ : ∃ s, s = shD k := ⟨_, rfl⟩
  rw [← hs] at hs0 ⊢
  clear hs
  by_cases h1 : k < 0
  · obtain rfl : s = 0 := by omega
    clear hs0
    go_enter Try.func86, Try.ntmps86
    go_wp2_with fail
    go_ret
    exact ⟨rfl, rfl⟩
  · have d1 : decide (k < 0) = false := decide_eq_false h1
    obtain rfl : (s : Int) = k := by omega
    clear hs0
    go_enter Try.func86, Try.ntmps86
    go_wp2_with fail
    go_ret
    exact ⟨rfl, rfl⟩
end Go.Proofs.Ytadldaidbcdaeaa
