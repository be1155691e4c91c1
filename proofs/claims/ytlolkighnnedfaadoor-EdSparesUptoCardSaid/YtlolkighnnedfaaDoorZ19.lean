import Derived.Test.YtlolkighnnedfaaDoorZ9
import Derived.Test.YtlolkighnnedfaaDoorZ7
import Derived.Test.YtlolkighnnedfaaDoorZ10
import Derived.Laws.MathBits
import Derived.Laws.BitsAllLaws
import Derived.Deep.DeepCutAuto
import Derived.Deep.CutBlock
/- signetref7: limb, Cmp, Bit, Trim, Times, by their contracts. (Printed by gen_ref7a.py.) -/
set_option linter.unusedVariables false
set_option linter.unusedSimpArgs false
namespace Go.Proofs.YtlolkighnnedfaaDoor
open Go.RowKit Go.Sg

/-- An int that stands in a slot. -/
def IsI (n : Nat) (v : Value) : Prop := v = .int .i64 (n : Int)
theorem limb7_c (a : Option Addr) (cap i : Nat) (zs : List Int) (w : World) (hc : Sl .u32 w a cap zs) (ux : U32 zs) (hi : i ≤ 9223372036854775807) :
    Calls Tryd.prog 117 #[.slice a zs.length cap, .int .i64 (i : Int)] w fun e w' => e = .returned (.int .u64 (nth zs i)) ∧ w = w' := by
  have hb := ux i
  have hm := Nat.le_trans hc.le hc.max
  by_cases h : i < zs.length
  · obtain ⟨b, off, rfl, hcc⟩ := hc.cells (by omega)
    have c1 := hcc i h
    have hd : decide ((zs.length : Int) ≤ (i : Int)) = false := decide_eq_false (by omega)
    have hd2 : (i : Int) < (zs.length : Int) := by omega
    go_enter Tryd.func117, Tryd.ntmps117
    go_wp2_with fail
    go_ret
    exact ⟨rfl, rfl⟩
  · have hd : decide ((zs.length : Int) ≤ (i : Int)) = true := decide_eq_true (by omega)
    have hd2 : (zs.length : Int) ≤ (i : Int) := by omega
    have e : Hid (nth zs i = 0) := Lib.hid (nth_out _ _ (by omega))
    go_enter Tryd.func117, Tryd.ntmps117
    go_wp2_with fail
    go_ret
    exact ⟨by rw [e.out]; first | done | rfl, rfl⟩

set_option maxHeartbeats 1000000 in
theorem cmp7_c (a a' : Option Addr) (cap cap' : Nat) (xs ys : List Int) (w : World) (hx : Sl .u32 w a cap xs) (hy : Sl .u32 w a' cap' ys) (ux : U32 xs) (uy : U32 ys) :
    Calls Tryd.prog 78 #[.slice a xs.length cap, .slice a' ys.length cap'] w (RCmpPost (cmpI (val xs) (val ys)) w) := by
  have h1 := Nat.le_trans hx.le hx.max
  have h2 := Nat.le_trans hy.le hy.max
  obtain ⟨n, hn0⟩ : ∃ n, n = max xs.length ys.length := ⟨_, rfl⟩
  have hn : n ≤ 9223372036854775807 := by omega
  have g1 : xs.length ≤ n := by omega
  have g2 : ys.length ≤ n := by omega
  have HM : Hid (max (xs.length : Int) (ys.length : Int) - 1 = (n : Int) - 1) := Lib.hid (by omega)
  have hmx : max (xs.length : Int) (ys.length : Int) ≤ 9223372036854775807 := by omega
  have hmn : 0 ≤ max (xs.length : Int) (ys.length : Int) := by omega
  clear hn0
  go_enter Tryd.func78, Tryd.ntmps78
  go_wp2_with fail
  go_loop [5] (fun t => ∃ k : Nat, k ≤ n ∧ t = .int .i64 ((k : Int) - 1) ∧ Above xs ys k)
    (fun t => (intOf t + 1).toNat)
  case atStart => exact ⟨n, by omega, by have := HM.out; go_num, .start _ _ _ g1 g2⟩
  case round =>
    obtain ⟨k, hk, rfl, hab⟩ := hrel
    have HA := Lib.hid hab
    clear hab
    by_cases h0 : 0 < k
    · obtain ⟨j, rfl⟩ : ∃ j, k = j + 1 := ⟨k - 1, by omega⟩
      have hj3 : (((j + 1 : Nat) : Int) - 1) = (j : Int) := by omega
      rw [hj3]
      have HJ := Lib.hid hj3
      have hj0 : (0 : Int) ≤ (j : Int) := by omega
      have hjm : (j : Int) ≤ 9223372036854775807 := by omega
      have lx := limb7_c a cap j xs w hx ux (by omega)
      have ly := limb7_c a' cap' j ys w hy uy (by omega)
      clear hj3 h0
      go_wp2_with fail
      refine lx.mono ?_; rintro e w' ⟨rfl, rfl⟩
      go_wp2_with fail
      refine ly.mono ?_; rintro e w' ⟨rfl, rfl⟩
      rcases Int.lt_trichotomy (nth xs j) (nth ys j) with h | h | h
      · go_wp2_with fail
        go_ret
        exact ⟨by rw [cmpI_lt (Above.lt ux HA.out h)]; rfl, rfl⟩
      · have g3 : ¬ nth xs j < nth ys j := by omega
        have g4 : ¬ nth ys j < nth xs j := by omega
        have HE := Lib.hid h
        clear h
        go_wp2_with fail
        refine lx.mono ?_; rintro e w' ⟨rfl, rfl⟩
        go_wp2_with fail
        refine ly.mono ?_; rintro e w' ⟨rfl, rfl⟩
        go_wp2_with fail
        go_round
        case rel => exact ⟨j, by omega, by go_num, HA.out.step HE.out⟩
        case measure => simp [intOf]
      · have g3 : ¬ nth xs j < nth ys j := by omega
        go_wp2_with fail
        refine lx.mono ?_; rintro e w' ⟨rfl, rfl⟩
        go_wp2_with fail
        refine ly.mono ?_; rintro e w' ⟨rfl, rfl⟩
        go_wp2_with fail
        go_ret
        refine ⟨?_, rfl⟩
        rw [cmpI_gt (Above.lt uy (fun i hi => (HA.out i hi).symm) h)]; rfl
    · obtain rfl : k = 0 := by omega
      clear h0 hk
      rw [show (((0 : Nat) : Int) - 1) = -1 from rfl]
      go_wp2_with fail
      go_ret
      exact ⟨by rw [cmpI_eq (HA.out.eq ux uy)]; rfl, rfl⟩

theorem and_one (z : Int) (h0 : 0 ≤ z) (h1 : z < 18446744073709551616) : bits .and .u64 z 1 = z % 2 := by
  obtain ⟨n, rfl⟩ := Int.eq_ofNat_of_zero_le h0
  have := u64_and_nat n 1 (by omega) (by omega)
  rw [show ((1 : Nat) : Int) = 1 from rfl] at this
  rw [this, Nat.and_one_is_mod]
  omega
set_option maxHeartbeats 1000000 in
theorem bit7_c (a : Option Addr) (cap i : Nat) (zs : List Int) (w : World) (hc : Sl .u32 w a cap zs) (ux : U32 zs) (hi : i ≤ 9223372036854775807) :
    Calls Tryd.prog 89 #[.slice a zs.length cap, .int .i64 (i : Int)] w fun e w' => e = .returned (.bool (decide (val zs / 2 ^ i % 2 = 1))) ∧ w = w' := by
  have lc := limb7_c a cap (i / 32) zs w hc ux (by omega)
  rw [← lb_cast ux] at lc
  have hl := lb_lt ux (i / 32)
  have fin := Lib.hid (bit_limb ux i)
  obtain ⟨m, hm⟩ : ∃ m, m = lb zs (i / 32) := ⟨_, rfl⟩
  rw [← hm] at lc hl fin
  obtain ⟨q, hq⟩ : ∃ q, q = i / 32 := ⟨_, rfl⟩
  obtain ⟨s, hs⟩ : ∃ s, s = i % 32 := ⟨_, rfl⟩
  rw [← hq] at lc
  rw [← hs] at fin
  have Eq : (i : Int) / 32 = (q : Int) := by omega
  have Es : (i : Int) % 32 = (s : Int) := by omega
  have s32 : s < 32 := by omega
  have hm0 : (0 : Int) ≤ (m : Int) := by omega
  have hm1 : (m : Int) ≤ 4294967295 := by unfold R at hl; omega
  obtain ⟨d, hd⟩ : ∃ d, d = m / 2 ^ s := ⟨_, rfl⟩
  have ed : (m : Int) / 2 ^ s = (d : Int) := by rw [hd, Int.natCast_ediv, Int.natCast_pow]; rfl
  have hdm : d ≤ m := by rw [hd]; exact Nat.div_le_self _ _
  have ha := and_one (d : Int) (by omega) (by omega)
  have hb : (((d : Int) % 2) == 1) = decide (d % 2 = 1) := by rw [Bool.eq_iff_iff]; simp; omega
  rw [← hd] at fin
  clear hm hq hs hd hl
  go_enter Tryd.func89, Tryd.ntmps89
  go_wp2_with fail
  refine lc.mono ?_; rintro e w' ⟨rfl, rfl⟩
  go_wp2_with fail
  go_ret
  exact ⟨by rw [fin.out]; first | done | rfl, rfl⟩

theorem info32r : (Tryd.prog.info? 36).map (fun i => (i.zero, i.size, i.bytes)) = some (some (.int .u32 0), 1, 4) := by kernel_rfl
theorem size32r : (Tryd.prog.info? 36).map (·.size) = some 1 := by kernel_rfl

set_option maxHeartbeats 1000000 in
theorem trim_c (a : Option Addr) (cap : Nat) (zs : List Int) (w : World) (hc : Sl .u32 w a cap zs) (ux : U32 zs) (hlen : zs.length ≤ 35184372088832) :
    Calls Tryd.prog 75 #[.slice a zs.length cap] w (NatPost (val zs) w) := by
  have hm := Nat.le_trans hc.le hc.max
  have hle := hc.le
  have cn := Canon.norm zs
  have vn := val_norm zs
  have un := ux.norm
  have ln := length_norm zs
  have CN := Lib.hid cn
  have VN := Lib.hid vn
  have cells := (hc.take (topz zs)).cells
  rw [show zs.take (topz zs) = norm zs from rfl] at cells
  obtain ⟨l, hl1⟩ : ∃ l, l = zs.length := ⟨_, rfl⟩
  have HL := Lib.hid hl1
  rw [← hl1] at hm hlen hle ⊢
  obtain ⟨N, hN⟩ : ∃ N, N = norm zs := ⟨_, rfl⟩
  rw [← hN] at CN VN un ln cells
  have LN := Lib.hid ln
  clear hl1 hN ln cn vn
  go_enter Tryd.func75, Tryd.ntmps75
  go_upto_block 0 with fail
  go_cut [3] (fun t wx => IsI (topz zs) t ∧ w = wx)
  case first =>
    go_wp2_with fail
    go_loop [3] (fun t => ∃ k : Nat, k ≤ l ∧ t = .int .i64 (k : Int) ∧ topz (zs.take k) = topz zs) (fun t => (intOf t).toNat)
    case atStart => exact ⟨l, Nat.le_refl _, rfl, by rw [List.take_of_length_le (by rw [HL.out]; exact Nat.le_refl _)]⟩
    case round =>
      obtain ⟨k, hk, rfl, ht⟩ := hrel
      have HT := Lib.hid ht
      clear ht
      by_cases hk0 : k = 0
      · subst hk0
        have fin : Hid (topz zs = 0) := Lib.hid (by rw [← HT.out]; rfl)
        go_wp2_with fail
        go_meet
        exact ⟨by rw [fin.out]; rfl, rfl⟩
      · obtain ⟨j, rfl⟩ : ∃ j, k = j + 1 := ⟨k - 1, by omega⟩
        obtain ⟨b, off, rfl, hcc⟩ := hc.cells (by rw [← HL.out]; omega)
        have c1 := hcc j (by rw [← HL.out]; omega)
        have hpi : ((j + 1 : Nat) : Int) - 1 = (j : Int) := by omega
        have hd : decide ((0 : Int) < ((j + 1 : Nat) : Int)) = true := decide_eq_true (by omega)
        clear hcc
        by_cases h0 : nth zs j = 0
        · have g0 : (nth zs j == 0) = true := by simpa using h0
          have HD := Lib.hid (topz_down zs (j + 1) (by omega) (by rw [← HL.out]; exact hk) (by simpa using h0))
          clear h0
          go_wp2_with fail
          go_round
          case rel => exact ⟨j, by omega, by go_num, by have h := HD.out; rw [Nat.add_sub_cancel] at h; rw [← h]; exact HT.out⟩
          case measure => simp [intOf]
        · have g0 : (nth zs j == 0) = false := by simpa using h0
          have HD : Hid (topz zs = j + 1) := Lib.hid (by rw [← HT.out]; exact topz_stop zs (j + 1) (by omega) (by rw [← HL.out]; exact hk) (by simpa using h0))
          clear h0
          go_wp2_with fail
          go_meet
          exact ⟨by rw [HD.out]; rfl, rfl⟩
  case rest =>
    obtain ⟨rfl, rfl⟩ := hcut
    have tl := topz_le zs
    rw [← HL.out] at tl
    obtain ⟨k, hk⟩ : ∃ k, k = topz zs := ⟨_, rfl⟩
    rw [← hk] at tl ⊢
    have lk : Hid (N.length = k) := Lib.hid (by rw [LN.out, hk])
    have rt := fun W => run_to (P := Tryd.prog) W 27 36 Tryd.underlying27 size32r a l cap k (by omega) (k : Int) rfl
    clear hk
    go_wp2_with (at_builtin; refine wpList_append_new _ rfl _ _ 27 rfl w.heap.size 36 .u32 4 Tryd.underlying27 info32r _ [] rfl (New.nil _ _ _ _) _ _ k N rfl lk.out.symm cells (by rw [lk.out]; simp; omega) (by rw [lk.out]; simp; omega) (Nat.le_refl _) ?_)
    intro v1 w1 hn1 hg1 _
    have hb1 : Below w.heap.size w w1 := (Below.refl _ _).grown hg1 (Nat.le_refl _) fun g hg => by simp [Value.ownBlock] at hg
    clear hg1
    go_wp2_with fail
    go_ret
    exact ⟨_, rfl, ⟨N, hn1, CN.out, un, VN.out⟩, hb1⟩
end Go.Proofs.YtlolkighnnedfaaDoor
