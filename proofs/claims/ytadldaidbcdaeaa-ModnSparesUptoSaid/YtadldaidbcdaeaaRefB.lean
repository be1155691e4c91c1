/- signetref6: FromBytes, Cmp, Bits, Bit, by their contracts. -/
import Derived.Test.YtadldaidbcdaeaaRefA
set_option linter.unusedVariables false
set_option linter.unusedSimpArgs false
namespace Go.Proofs.Ytadldaidbcdaeaa
open Go.RowKit Go.Sg

/-- Bytes i - 4 .. i - 4 + t, those that there are. -/
def seg (bs : List Int) (i t : Nat) : List Int := (bs.take (i + t - 4)).drop (i - 4)
theorem seg_zero (bs : List Int) (i : Nat) : seg bs i 0 = [] := by
  apply List.eq_nil_of_length_eq_zero; simp [seg]
theorem seg_skip (bs : List Int) (i t : Nat) (h : i + t < 4) : seg bs i (t + 1) = seg bs i t := by
  unfold seg; rw [show i + (t + 1) - 4 = i + t - 4 by omega]
theorem seg_snoc (bs : List Int) (i t : Nat) (h : 4 ≤ i + t) (hl : i + t - 4 < bs.length) : seg bs i (t + 1) = seg bs i t ++ [nth bs (i + t - 4)] := by
  unfold seg
  rw [show i + (t + 1) - 4 = (i + t - 4) + 1 by omega, take_succ_nth _ _ hl, List.drop_append_of_le_length (by simp; omega)]
theorem seg_len (bs : List Int) (i t : Nat) (h : t ≤ 4) : (seg bs i t).length ≤ t := by simp [seg]; omega
theorem seg_full (bs : List Int) (i : Nat) : seg bs i 4 = (bs.take i).drop (i - 4) := by unfold seg; rw [show i + 4 - 4 = i by omega]
theorem bval_drop (bs : List Int) (i : Nat) (hi : i ≤ bs.length) : bval (bs.drop (i - 4)) = bval (seg bs i 4) * 256 ^ (bs.length - i) + bval (bs.drop i) := by
  have e : bs.drop (i - 4) = seg bs i 4 ++ bs.drop i := by
    rw [seg_full]
    conv => lhs; rw [← List.take_append_drop i bs]
    rw [List.drop_append_of_le_length (by simp; omega)]
  rw [e, bval_append, List.length_drop]
theorem bval_seg_lt {bs : List Int} (ub : U8 bs) (i t : Nat) (h : t ≤ 4) : bval (seg bs i t) < 256 ^ t := by
  have h1 : U8 (seg bs i t) := (ub.take (by omega) _).drop (by omega) _
  exact Nat.lt_of_lt_of_le (bval_lt h1) (Nat.pow_le_pow_right (by decide) (seg_len bs i t h))

set_option maxHeartbeats 2000000 in
theorem rFromBytes_c (a : Option Addr) (cap : Nat) (bs : List Int) (w : World) (hc : Sl .u8 w a cap bs) (ub : U8 bs) (hlen : bs.length ≤ 140737488355328) :
    Calls Try.prog 44 #[.slice a bs.length cap] w (NatPost (bval bs) w) := by
  have hm := hc.max
  go_enter Try.func44, Try.ntmps44
  go_wp2_with fail
  go_loopw [3, 4] (fun v t wr => ∃ (k : Nat) (i : Int), t = .int .i64 i ∧ i = (bs.length : Int) - 4 * k ∧ -4 < i ∧ ∃ zs, New w.heap.size .u32 52 wr v zs ∧ zs.length = k ∧ U32 zs ∧ val zs = bval (bs.drop i.toNat) ∧ Below w.heap.size w wr)
    (fun _ t _ => (intOf t).toNat)
  case atStart => exact ⟨0, bs.length, rfl, by omega, by omega, [], .nil _ _ _ _, rfl, .nil (by omega), by simp [val, bval], .refl _ _⟩
  case round =>
    obtain ⟨k, i, rfl, hi, hi4, zs, hv, hk, uz, hval, hb⟩ := hrel
    have HI := Lib.hid hi
    have HK := Lib.hid hk
    have HV := Lib.hid hval
    clear hi hk hval
    by_cases hp : 0 < i
    · obtain ⟨n, rfl⟩ := Int.eq_ofNat_of_zero_le (show 0 ≤ i by omega)
      have hp1 : (1 : Int) ≤ (n : Int) := by omega
      have hn : n ≤ bs.length := by have := HI.out; omega
      have hbs := hb.size
      clear hi4
      obtain ⟨wo, rfl⟩ : ∃ wo : World, wo = wr := ⟨_, rfl⟩
      go_wp2_with fail
      go_loop [5, 6] (fun u j => ∃ t : Nat, t ≤ 4 ∧ j = .int .i64 ((n : Int) - 4 + t) ∧ u = .int .u32 ((bval (seg bs n t) : Nat) : Int))
        (fun _ j => ((n : Int) - intOf j).toNat)
      case atStart => exact ⟨0, by omega, by go_num, by rw [seg_zero]; rfl⟩
      case round =>
        obtain ⟨t, ht, rfl, rfl⟩ := hrel
        by_cases ht4 : t < 4
        · have hsl := bval_seg_lt ub n t (by omega)
          have hsl3 : (256 : Nat) ^ t ≤ 256 ^ 3 := Nat.pow_le_pow_right (by decide) (by omega)
          have hsl2 : bval (seg bs n t) < 16777216 := Nat.lt_of_lt_of_le hsl hsl3
          have hlt : (n : Int) - 4 + t < n := by omega
          clear hsl hsl3
          by_cases hg : 4 ≤ n + t
          · obtain ⟨b, off, rfl, hcc⟩ := hc.cells (by omega)
            have hcw := (hb.cell (World.block_lt_of_cell? w _ (hcc (n + t - 4) (by omega)))).trans (hcc (n + t - 4) (by omega))
            have ej : ((n : Int) - 4 + t) = ((n + t - 4 : Nat) : Int) := by omega
            have hby := ub (n + t - 4)
            have hge : (0 : Int) ≤ ((n + t - 4 : Nat) : Int) := by omega
            have hlt2 : n + t - 4 < bs.length := by omega
            have e5 := seg_snoc bs n t hg hlt2
            have E5 := Lib.hid e5
            clear e5 hcc
            obtain ⟨q, hq⟩ : ∃ q, q = n + t - 4 := ⟨_, rfl⟩
            have Hq := Lib.hid hq
            rw [← hq] at hcw ej hby hge hlt2
            rw [ej]
            have EJ := Lib.hid ej
            have hqn : (q : Int) < n := by omega
            clear ej hlt hq
            go_wp2_with fail
            go_round
            case rel => exact ⟨t + 1, by omega, by have := EJ.out; go_num, by rw [E5.out, bval_snoc, ← Hq.out]; refine congrArg (Value.int IntKind.u32) ?_; omega⟩
            case measure => simp [intOf]; omega
          · have hge : ¬ 0 ≤ (n : Int) - 4 + t := by omega
            have e5 := Lib.hid (seg_skip bs n t (by omega))
            have e0 : bval (seg bs n t) = 0 := by
              have : seg bs n t = [] := by apply List.eq_nil_of_length_eq_zero; simp [seg]; omega
              rw [this]; rfl
            have E0 := Lib.hid e0
            rw [e0]
            clear e0
            go_wp2_with fail
            go_round
            case rel => exact ⟨t + 1, by omega, by go_num, by rw [e5.out, E0.out]; rfl⟩
            case measure => simp [intOf]; omega
        · obtain rfl : t = 4 := by omega
          have hsl := bval_seg_lt ub n 4 (by omega)
          rw [show (256 : Nat) ^ 4 = 4294967296 from rfl] at hsl
          have hge : ¬ ((n : Int) - 4 + (4 : Nat) < n) := by omega
          go_wp2_with (at_builtin; refine wpList_append_new _ rfl _ _ 30 rfl w.heap.size 52 .u32 4 Try.underlying30 info32 _ _ rfl (hv.alloc _) _ _ 1 [((bval (seg bs n 4) : Nat) : Int)] rfl rfl (cells_one _ _ _ _ _ rfl) (by have := HK.out; have := HI.out; simp; omega) (by have := HK.out; have := HI.out; simp; omega) (by simp; omega) ?_)
          intro v' w' hv' hg _
          have hb' : Below w.heap.size w w' := (hb.alloc (by omega) _).grown hg (by simp; omega) fun g hg => (hv.lt g hg).1
          have hzl : zs.length = k := HK.out
          have hnk : (n : Int) = (bs.length : Int) - 4 * k := HI.out
          have hval' : val (zs ++ [((bval (seg bs n 4) : Nat) : Int)]) = bval (bs.drop (n - 4)) := by
            rw [val_snoc, HV.out, bval_drop bs n hn, Int.toNat_natCast, Int.toNat_natCast, hzl, R_pow_256, show bs.length - n = 4 * k by omega, Nat.mul_comm]
            omega
          have HV' := Lib.hid hval'
          have HN := Lib.hid hnk
          have HZ := Lib.hid hzl
          clear hg hv hb hbs hval' hnk hzl
          go_wp2_with fail
          go_roundw
          case rel => exact ⟨k + 1, (n : Int) - 4, rfl, by have := HN.out; omega, by omega, _, hv', by have := HZ.out; simp; omega, uz.append (by omega) (.one (by omega) (by omega)), by rw [HV'.out]; congr 2; omega, hb'⟩
          case measure => simp [intOf]; omega
    · have h0 : i.toNat = 0 := by omega
      have hz : val zs = bval bs := by rw [HV.out, h0, List.drop_zero]
      have hkl : zs.length ≤ 35184372088832 := by have := HK.out; have := HI.out; omega
      have HZ := Lib.hid hz
      have hbs := hb.size
      obtain ⟨a1, c1, rfl, hs⟩ := hv.sl
      clear hz
      go_wp2_with fail
      refine (rProper_c _ _ _ _ hs hkl).mono ?_; rintro e w1 ⟨v1, rfl, hn1, hb1⟩
      go_wp2_with fail
      go_ret
      exact ⟨_, rfl, ⟨norm zs, hn1.mono hbs, .norm _, uz.norm, by rw [val_norm, HZ.out]⟩, hb.trans (hb1.mono hbs)⟩

/-! ### Cmp -/
theorem val_pad (xs : List Int) (m : Nat) : val (xs ++ List.replicate m 0) = val xs := by rw [val_append, val_zeros]; omega
theorem nth_pad (xs : List Int) (m i : Nat) : nth (xs ++ List.replicate m 0) i = nth xs i := by
  by_cases h : i < xs.length
  · exact nth_append_left _ _ _ h
  · obtain ⟨j, rfl⟩ : ∃ j, i = xs.length + j := ⟨i - xs.length, by omega⟩
    rw [nth_append_right, nth_replicate0, nth_out _ _ (by omega)]
theorem u32_pad {xs : List Int} (h : U32 xs) (m : Nat) : U32 (xs ++ List.replicate m 0) := fun i => by rw [nth_pad]; exact h i
/-- The same limbs from k on, whatever the lengths. -/
def Above (xs ys : List Int) (k : Nat) : Prop := ∀ j, k ≤ j → nth xs j = nth ys j
theorem Above.start (xs ys : List Int) (n : Nat) (h1 : xs.length ≤ n) (h2 : ys.length ≤ n) : Above xs ys n := fun j hj => by rw [nth_out _ _ (by omega), nth_out _ _ (by omega)]
theorem Above.step {xs ys : List Int} {k : Nat} (h : Above xs ys (k + 1)) (e : nth xs k = nth ys k) : Above xs ys k := fun j hj => by
  by_cases hk : j = k
  · rw [hk]; exact e
  · exact h j (by omega)
theorem Above.eq {xs ys : List Int} (ux : U32 xs) (uy : U32 ys) (h : Above xs ys 0) : val xs = val ys := by
  rw [← val_pad xs ys.length, ← val_pad ys xs.length]
  congr 1
  apply ext_nth
  · simp; omega
  · intro i _
    rw [nth_pad, nth_pad]
    exact h i (by omega)
theorem Above.lt {xs ys : List Int} (ux : U32 xs) {k : Nat} (h : Above xs ys (k + 1)) (hlt : nth xs k < nth ys k) : val xs < val ys := by
  rw [← val_pad xs (ys.length + k + 1), ← val_pad ys (xs.length + k + 1)]
  apply top_lt (u32_pad ux _) k (by simp; omega) (by simp; omega)
  · apply ext_nth
    · simp; omega
    · intro i _
      rw [nth_drop, nth_drop, nth_pad, nth_pad]
      exact h _ (by omega)
  · rw [nth_pad, nth_pad]; exact hlt

def RCmpPost (r : Int) (w : World) (e : Ending) (w' : World) : Prop := e = .returned (.int .i64 r) ∧ w = w'

set_option maxHeartbeats 1000000 in
theorem rCmp_c (a a' : Option Addr) (cap cap' : Nat) (xs ys : List Int) (w : World) (hx : Sl .u32 w a cap xs) (hy : Sl .u32 w a' cap' ys) (ux : U32 xs) (uy : U32 ys) :
    Calls Try.prog 32 #[.slice a xs.length cap, .slice a' ys.length cap'] w (RCmpPost (cmpI (val xs) (val ys)) w) := by
  have h1 := Nat.le_trans hx.le hx.max
  have h2 := Nat.le_trans hy.le hy.max
  suffices H : ∀ n : Nat, n ≤ 9223372036854775807 → xs.length ≤ n → ys.length ≤ n → n = max xs.length ys.length →
      Calls Try.prog 32 #[.slice a xs.length cap, .slice a' ys.length cap'] w (RCmpPost (cmpI (val xs) (val ys)) w) from
    H (max xs.length ys.length) (by omega) (by omega) (by omega) rfl
  intro n hn g1 g2 hmax
  have HM := Lib.hid hmax
  by_cases hc : xs.length < ys.length
  · have hyn : ys.length = n := by omega
    have HY := Lib.hid hyn
    clear hmax hyn
    go_enter Try.func32, Try.ntmps32
    go_wp2_with fail
    go_loop [6, 7, 8] (fun t _ _ => ∃ k : Nat, k ≤ n ∧ t = .int .i64 ((k : Int) - 1) ∧ Above xs ys k)
      (fun t _ _ => (intOf t + 1).toNat)
    case atStart => exact ⟨n, by omega, by have := HY.out; go_num, .start _ _ _ g1 g2⟩
    case round =>
      obtain ⟨k, hk, rfl, hab⟩ := hrel
      have HA := Lib.hid hab
      clear hab
      by_cases h0 : 0 < k
      · obtain ⟨j, rfl⟩ : ∃ j, k = j + 1 := ⟨k - 1, by omega⟩
        have hj3 : (((j + 1 : Nat) : Int) - 1) = (j : Int) := by omega
        rw [hj3]
        have HJ := Lib.hid hj3
        have hj0 : (0 : Int) ≤ (j : Int) := by omega
        have hjm : (j : Int) ≤ 9223372036854775807 := by omega
        clear hj3 h0
        go_wp2_with fail
        refine (rlimb_c a cap j xs _ hx ux (by omega)).mono ?_; rintro e w' ⟨rfl, rfl⟩
        go_wp2_with fail
        refine (rlimb_c a' cap' j ys _ hy uy (by omega)).mono ?_; rintro e w' ⟨rfl, rfl⟩
        rcases Int.lt_trichotomy (nth xs j) (nth ys j) with h | h | h
        · go_wp2_with fail
          go_ret
          exact ⟨by rw [cmpI_lt (Above.lt ux HA.out h)]; rfl, rfl⟩
        · have g3 : ¬ nth xs j < nth ys j := by omega
          have g4 : ¬ nth ys j < nth xs j := by omega
          have HE := Lib.hid h
          clear h
          go_wp2_with fail
          go_round
          case rel => exact ⟨j, by omega, by go_num, HA.out.step HE.out⟩
          case measure => simp [intOf]
        · have g3 : ¬ nth xs j < nth ys j := by omega
          go_wp2_with fail
          go_ret
          refine ⟨?_, rfl⟩
          rw [cmpI_gt (Above.lt uy (fun i hi => (HA.out i hi).symm) h)]; rfl
      · obtain rfl : k = 0 := by omega
        clear h0 hk
        rw [show (((0 : Nat) : Int) - 1) = -1 from rfl]
        go_wp2_with fail
        go_ret
        exact ⟨by rw [cmpI_eq (HA.out.eq ux uy)]; rfl, rfl⟩
  · have hxn : xs.length = n := by omega
    have HY := Lib.hid hxn
    clear hmax hxn
    go_enter Try.func32, Try.ntmps32
    go_wp2_with fail
    go_loop [6, 7, 8] (fun t _ _ => ∃ k : Nat, k ≤ n ∧ t = .int .i64 ((k : Int) - 1) ∧ Above xs ys k)
      (fun t _ _ => (intOf t + 1).toNat)
    case atStart => exact ⟨n, by omega, by have := HY.out; go_num, .start _ _ _ g1 g2⟩
    case round =>
      obtain ⟨k, hk, rfl, hab⟩ := hrel
      have HA := Lib.hid hab
      clear hab
      by_cases h0 : 0 < k
      · obtain ⟨j, rfl⟩ : ∃ j, k = j + 1 := ⟨k - 1, by omega⟩
        have hj3 : (((j + 1 : Nat) : Int) - 1) = (j : Int) := by omega
        rw [hj3]
        have HJ := Lib.hid hj3
        have hj0 : (0 : Int) ≤ (j : Int) := by omega
        have hjm : (j : Int) ≤ 9223372036854775807 := by omega
        clear hj3 h0
        go_wp2_with fail
        refine (rlimb_c a cap j xs _ hx ux (by omega)).mono ?_; rintro e w' ⟨rfl, rfl⟩
        go_wp2_with fail
        refine (rlimb_c a' cap' j ys _ hy uy (by omega)).mono ?_; rintro e w' ⟨rfl, rfl⟩
        rcases Int.lt_trichotomy (nth xs j) (nth ys j) with h | h | h
        · go_wp2_with fail
          go_ret
          exact ⟨by rw [cmpI_lt (Above.lt ux HA.out h)]; rfl, rfl⟩
        · have g3 : ¬ nth xs j < nth ys j := by omega
          have g4 : ¬ nth ys j < nth xs j := by omega
          have HE := Lib.hid h
          clear h
          go_wp2_with fail
          go_round
          case rel => exact ⟨j, by omega, by go_num, HA.out.step HE.out⟩
          case measure => simp [intOf]
        · have g3 : ¬ nth xs j < nth ys j := by omega
          go_wp2_with fail
          go_ret
          refine ⟨?_, rfl⟩
          rw [cmpI_gt (Above.lt uy (fun i hi => (HA.out i hi).symm) h)]; rfl
      · obtain rfl : k = 0 := by omega
        clear h0 hk
        rw [show (((0 : Nat) : Int) - 1) = -1 from rfl]
        go_wp2_with fail
        go_ret
        exact ⟨by rw [cmpI_eq (HA.out.eq ux uy)]; rfl, rfl⟩

/-! ### Bits -/
theorem bl_half (x : Nat) (h : x ≠ 0) : bl x = 1 + bl (x / 2) := by
  by_cases h1 : x / 2 = 0
  · obtain rfl : x = 1 := by omega
    decide
  · have e := bl_add_low (x / 2) 1 (x % 2) h1 (by omega)
    rw [show x % 2 + 2 ^ 1 * (x / 2) = x by omega] at e
    omega
def IntPost (n : Int) (w : World) (e : Ending) (w' : World) : Prop := e = .returned (.int .i64 n) ∧ Below w.heap.size w w'

set_option maxHeartbeats 1000000 in
theorem rBits_c (a : Option Addr) (cap : Nat) (zs : List Int) (w : World) (hc : Sl .u32 w a cap zs) (ux : U32 zs) (hlen : zs.length ≤ 35184372088832) :
    Calls Try.prog 49 #[.slice a zs.length cap] w (IntPost (bl (val zs)) w) := by
  go_enter Try.func49, Try.ntmps49
  go_wp2_with fail
  refine (rProper_c _ _ _ _ hc hlen).mono ?_; rintro e w1 ⟨v1, rfl, hn1, hb1⟩
  obtain ⟨a1, c1, rfl, hs⟩ := hn1.sl
  have ex := Lib.hid (val_norm zs).symm
  have cx := Canon.norm zs
  have vx := ux.norm
  have hl : (norm zs).length ≤ 35184372088832 := by rw [length_norm]; have := topz_le zs; omega
  clear ux
  generalize norm zs = x at *
  by_cases h0 : x.length = 0
  · obtain rfl : x = [] := List.eq_nil_of_length_eq_zero h0
    go_wp2_with fail
    go_ret
    exact ⟨by rw [ex.out]; rfl, hb1⟩
  · obtain ⟨b, off, rfl, hcc⟩ := hs.cells (by omega)
    have hcell := hcc (x.length - 1) (by omega)
    have hbx := vx (x.length - 1)
    have hp : 0 < (x.length : Int) := by omega
    have h2 : ((x.length : Int) == 0) = false := beq_false_of_ne (by omega)
    have ev := Lib.hid (bl_val vx cx (by omega))
    have hlb := Lib.hid (show nth x (x.length - 1) = ((lb x (x.length - 1) : Nat) : Int) from (lb_cast vx _).symm)
    have hbl := Lib.hid (show bl (lb x (x.length - 1)) ≤ 32 from bl_u32 _ hbx.1 hbx.2)
    have hpos := Lib.hid (show 0 < x.length by omega)
    clear hcc h0
    go_wp2_with fail
    go_loop [4, 5] (fun o t => ∃ (k m : Nat), t = .int .u32 (m : Int) ∧ m ≤ 4294967295 ∧ o = .int .i64 (32 * ((x.length : Int) - 1) + (k : Int)) ∧ k + bl m = bl (lb x (x.length - 1)))
      (fun _ t => (intOf t).toNat)
    case atStart => exact ⟨0, lb x (x.length - 1), by rw [hlb.out], by have := lb_lt vx (x.length - 1); unfold R at this; omega, by go_num, by omega⟩
    case round =>
      obtain ⟨k, m, rfl, hm, rfl, hk⟩ := hrel
      have HK := Lib.hid hk
      have hk32 : k ≤ 32 := by have := HK.out; have := hbl.out; omega
      clear hk
      by_cases hm0 : 0 < m
      · have hm1 : 0 < (m : Int) := by omega
        go_wp2_with fail
        go_round
        case rel => exact ⟨k + 1, m / 2, by go_num, by omega, by go_num, by have := HK.out; rw [bl_half m (by omega)] at this; omega⟩
        case measure => simp [intOf]; omega
      · obtain rfl : m = 0 := by omega
        go_wp2_with fail
        go_ret
        refine ⟨?_, hb1⟩
        have hk := HK.out
        rw [bl_zero] at hk
        have hpp := hpos.out
        rw [ex.out, ev.out]
        exact congrArg Ending.returned (congrArg (Value.int .i64) (by show 32 * ((x.length : Int) - 1) + (k : Int) = _; omega))

/-! ### Bit -/
/-- A bit of a number. -/
def bitB (n : Nat) (i : Int) : Bool := decide (0 ≤ i ∧ n / 2 ^ i.toNat % 2 = 1)
theorem bit_limb {zs : List Int} (uz : U32 zs) (i : Nat) : val zs / 2 ^ i % 2 = lb zs (i / 32) / 2 ^ (i % 32) % 2 := by
  by_cases h : i / 32 < zs.length
  · have e1 := val_split zs (i / 32) (by omega)
    have e2 := val_drop zs (i / 32) h
    have h1 := val_take_lt uz (i / 32) (by omega)
    have h3 : 2 ^ i = R ^ (i / 32) * 2 ^ (i % 32) := by rw [Rpow_two, ← Nat.pow_add]; congr 1; omega
    rw [e2] at e1
    rw [h3, ← Nat.div_div_eq_div_mul, e1, Nat.add_mul_div_left _ _ (Rpow_pos _), Nat.div_eq_of_lt h1, Nat.zero_add]
    have h4 : R = 2 ^ (i % 32) * (2 * 2 ^ (31 - i % 32)) := by
      rw [← Nat.pow_succ', ← Nat.pow_add, show i % 32 + (31 - i % 32 + 1) = 32 by omega]; rfl
    rw [h4, Nat.mul_assoc, Nat.add_mul_div_left _ _ (Nat.two_pow_pos _), Nat.mul_assoc, Nat.add_mul_mod_self_left]
  · rw [lb, nth_out _ _ (by omega)]
    have h1 := val_lt uz
    have h2 : R ^ zs.length ≤ 2 ^ i := by rw [Rpow_two]; exact Nat.pow_le_pow_right (by decide) (by omega)
    rw [Nat.div_eq_of_lt (by omega)]
    simp
end Go.Proofs.Ytadldaidbcdaeaa
