import Derived.Test.YtlolkighnnedfaaGreatDoorZ8
import Derived.Test.YtlolkighnnedfaaGreatDoorZ6
import Derived.Test.YtlolkighnnedfaaGreatDoorZ9
import Derived.Laws.MathBits
import Derived.Laws.BitsAllLaws
import Derived.Deep.DeepCutAuto
import Derived.Deep.CutBlock
/- signetref7: limb, Cmp, Bit, Trim, Times, by their contracts. (Printed by gen_ref7a.py.) -/
set_option linter.unusedVariables false
set_option linter.unusedSimpArgs false
namespace Go.Proofs.YtlolkighnnedfaaGreatDoor
open Go.RowKit Go.Sg

/-- An int that stands in a slot. -/
def IsI (n : Nat) (v : Value) : Prop := v = .int .i64 (n : Int)
theorem limb7_c (a : Option Addr) (cap i : Nat) (zs : List Int) (w : World) (hc : Sl .u32 w a cap zs) (ux : U32 zs) (hi : i ≤ 9223372036854775807) :
    Calls Tryz.prog 73 #[.slice a zs.length cap, .int .i64 (i : Int)] w fun e w' => e = .returned (.int .u64 (nth zs i)) ∧ w = w' := by
  have hb := ux i
  have hm := Nat.le_trans hc.le hc.max
  by_cases h : i < zs.length
  · obtain ⟨b, off, rfl, hcc⟩ := hc.cells (by omega)
    have c1 := hcc i h
    have hd : decide ((zs.length : Int) ≤ (i : Int)) = false := decide_eq_false (by omega)
    have hd2 : (i : Int) < (zs.length : Int) := by omega
    go_enter Tryz.func73, Tryz.ntmps73
    go_wp2_with fail
    go_ret
    exact ⟨rfl, rfl⟩
  · have hd : decide ((zs.length : Int) ≤ (i : Int)) = true := decide_eq_true (by omega)
    have hd2 : (zs.length : Int) ≤ (i : Int) := by omega
    have e : Hid (nth zs i = 0) := Lib.hid (nth_out _ _ (by omega))
    go_enter Tryz.func73, Tryz.ntmps73
    go_wp2_with fail
    go_ret
    exact ⟨by rw [e.out]; first | done | rfl, rfl⟩

set_option maxHeartbeats 1000000 in
theorem cmp7_c (a a' : Option Addr) (cap cap' : Nat) (xs ys : List Int) (w : World) (hx : Sl .u32 w a cap xs) (hy : Sl .u32 w a' cap' ys) (ux : U32 xs) (uy : U32 ys) :
    Calls Tryz.prog 24 #[.slice a xs.length cap, .slice a' ys.length cap'] w (RCmpPost (cmpI (val xs) (val ys)) w) := by
  have h1 := Nat.le_trans hx.le hx.max
  have h2 := Nat.le_trans hy.le hy.max
  obtain ⟨n, hn0⟩ : ∃ n, n = max xs.length ys.length := ⟨_, rfl⟩
  have hn : n ≤ 9223372036854775807 := by omega
  have g1 : xs.length ≤ n := by omega
  have g2 : ys.length ≤ n := by omega
  have HM : Hid (max (xs.length : Int) (ys.length : Int) - 1 = (n : Int) - 1) := Lib.hid (by omega)
  have hmx : max (xs.length : Int) (ys.length : Int) ≤ 9223372036854775807 := by omega
  have hmn : 0 ≤ max (xs.length : Int) (ys.length : Int) := by omega
  clear hn0
  go_enter Tryz.func24, Tryz.ntmps24
  go_wp2_with fail
  go_loop [5] (fun t => ∃ k : Nat, k ≤ n ∧ t = .int .i64 ((k : Int) - 1) ∧ Above xs ys k)
    (fun t => (intOf t + 1).toNat)
  case atStart => exact ⟨n, by omega, by have := HM.out; go_num, .start _ _ _ g1 g2⟩
  case round =>
    obtain ⟨k, hk, rfl, hab⟩ := hrel
    have HA := Lib.hid hab
    clear hab
    by_cases h0 : 0 < k
    · obtain ⟨j, rfl⟩ : ∃ j, k = j + 1 := ⟨k - 1, by omega⟩
      have hj3 : (((j + 1 : Nat) : Int) - 1) = (j : Int) := by omega
      rw [hj3]
      have HJ := Lib.hid hj3
      have hj0 : (0 : Int) ≤ (j : Int) := by omega
      have hjm : (j : Int) ≤ 9223372036854775807 := by omega
      have lx := limb7_c a cap j xs w hx ux (by omega)
      have ly := limb7_c a' cap' j ys w hy uy (by omega)
      clear hj3 h0
      go_wp2_with fail
      refine lx.mono ?_; rintro e w' ⟨rfl, rfl⟩
      go_wp2_with fail
      refine ly.mono ?_; rintro e w' ⟨rfl, rfl⟩
      rcases Int.lt_trichotomy (nth xs j) (nth ys j) with h | h | h
      · go_wp2_with fail
        go_ret
        exact ⟨by rw [cmpI_lt (Above.lt ux HA.out h)]; rfl, rfl⟩
      · have g3 : ¬ nth xs j < nth ys j := by omega
        have g4 : ¬ nth ys j < nth xs j := by omega
        have HE := Lib.hid h
        clear h
        go_wp2_with fail
        refine lx.mono ?_; rintro e w' ⟨rfl, rfl⟩
        go_wp2_with fail
        refine ly.mono ?_; rintro e w' ⟨rfl, rfl⟩
        go_wp2_with fail
        go_round
        case rel => exact ⟨j, by omega, by go_num, HA.out.step HE.out⟩
        case measure => simp [intOf]
      · have g3 : ¬ nth xs j < nth ys j := by omega
        go_wp2_with fail
        refine lx.mono ?_; rintro e w' ⟨rfl, rfl⟩
        go_wp2_with fail
        refine ly.mono ?_; rintro e w' ⟨rfl, rfl⟩
        go_wp2_with fail
        go_ret
        refine ⟨?_, rfl⟩
        rw [cmpI_gt (Above.lt uy (fun i hi => (HA.out i hi).symm) h)]; rfl
    · obtain rfl : k = 0 := by omega
      clear h0 hk
      rw [show (((0 : Nat) : Int) - 1) = -1 from rfl]
      go_wp2_with fail
      go_ret
      exact ⟨by rw [cmpI_eq (HA.out.eq ux uy)]; rfl, rfl⟩

theorem and_one (z : Int) (h0 : 0 ≤ z) (h1 : z < 18446744073709551616) : bits .and .u64 z 1 = z % 2 := by
  obtain ⟨n, rfl⟩ := Int.eq_ofNat_of_zero_le h0
  have := u64_and_nat n 1 (by omega) (by omega)
  rw [show ((1 : Nat) : Int) = 1 from rfl] at this
  rw [this, Nat.and_one_is_mod]
  omega
set_option maxHeartbeats 1000000 in
theorem bit7_c (a : Option Addr) (cap i : Nat) (zs : List Int) (w : World) (hc : Sl .u32 w a cap zs) (ux : U32 zs) (hi : i ≤ 9223372036854775807) :
    Calls Tryz.prog 71 #[.slice a zs.length cap, .int .i64 (i : Int)] w fun e w' => e = .returned (.bool (decide (val zs / 2 ^ i % 2 = 1))) ∧ w = w' := by
  have lc := limb7_c a cap (i / 32) zs w hc ux (by omega)
  rw [← lb_cast ux] at lc
  have hl := lb_lt ux (i / 32)
  have fin := Lib.hid (bit_limb ux i)
  obtain ⟨m, hm⟩ : ∃ m, m = lb zs (i / 32) := ⟨_, rfl⟩
  rw [← hm] at lc hl fin
  obtain ⟨q, hq⟩ : ∃ q, q = i / 32 := ⟨_, rfl⟩
  obtain ⟨s, hs⟩ : ∃ s, s = i % 32 := ⟨_, rfl⟩
  rw [← hq] at lc
  rw [← hs] at fin
  have Eq : (i : Int) / 32 = (q : Int) := by omega
  have Es : (i : Int) % 32 = (s : Int) := by omega
  have s32 : s < 32 := by omega
  have hm0 : (0 : Int) ≤ (m : Int) := by omega
  have hm1 : (m : Int) ≤ 4294967295 := by unfold R at hl; omega
  obtain ⟨d, hd⟩ : ∃ d, d = m / 2 ^ s := ⟨_, rfl⟩
  have ed : (m : Int) / 2 ^ s = (d : Int) := by rw [hd, Int.natCast_ediv, Int.natCast_pow]; rfl
  have hdm : d ≤ m := by rw [hd]; exact Nat.div_le_self _ _
  have ha := and_one (d : Int) (by omega) (by omega)
  have hb : (((d : Int) % 2) == 1) = decide (d % 2 = 1) := by rw [Bool.eq_iff_iff]; simp; omega
  rw [← hd] at fin
  clear hm hq hs hd hl
  go_enter Tryz.func71, Tryz.ntmps71
  go_wp2_with fail
  refine lc.mono ?_; rintro e w' ⟨rfl, rfl⟩
  go_wp2_with fail
  go_ret
  exact ⟨by rw [fin.out]; first | done | rfl, rfl⟩

theorem info32r : (Tryz.prog.info? 64).map (fun i => (i.zero, i.size, i.bytes)) = some (some (.int .u32 0), 1, 4) := by kernel_rfl
theorem size32r : (Tryz.prog.info? 64).map (·.size) = some 1 := by kernel_rfl

set_option maxHeartbeats 1000000 in
theorem trim_c (a : Option Addr) (cap : Nat) (zs : List Int) (w : World) (hc : Sl .u32 w a cap zs) (ux : U32 zs) (hlen : zs.length ≤ 35184372088832) :
    Calls Tryz.prog 72 #[.slice a zs.length cap] w (NatPost (val zs) w) := by
  have hm := Nat.le_trans hc.le hc.max
  have hle := hc.le
  have cn := Canon.norm zs
  have vn := val_norm zs
  have un := ux.norm
  have ln := length_norm zs
  have CN := Lib.hid cn
  have VN := Lib.hid vn
  have cells := (hc.take (topz zs)).cells
  rw [show zs.take (topz zs) = norm zs from rfl] at cells
  obtain ⟨l, hl1⟩ : ∃ l, l = zs.length := ⟨_, rfl⟩
  have HL := Lib.hid hl1
  rw [← hl1] at hm hlen hle ⊢
  obtain ⟨N, hN⟩ : ∃ N, N = norm zs := ⟨_, rfl⟩
  rw [← hN] at CN VN un ln cells
  have LN := Lib.hid ln
  clear hl1 hN ln cn vn
  go_enter Tryz.func72, Tryz.ntmps72
  go_upto_block 0 with fail
  go_cut [3] (fun t wx => IsI (topz zs) t ∧ w = wx)
  case first =>
    go_wp2_with fail
    go_loop [3] (fun t => ∃ k : Nat, k ≤ l ∧ t = .int .i64 (k : Int) ∧ topz (zs.take k) = topz zs) (fun t => (intOf t).toNat)
    case atStart => exact ⟨l, Nat.le_refl _, rfl, by rw [List.take_of_length_le (by rw [HL.out]; exact Nat.le_refl _)]⟩
    case round =>
      obtain ⟨k, hk, rfl, ht⟩ := hrel
      have HT := Lib.hid ht
      clear ht
      by_cases hk0 : k = 0
      · subst hk0
        have fin : Hid (topz zs = 0) := Lib.hid (by rw [← HT.out]; rfl)
        go_wp2_with fail
        go_meet
        exact ⟨by rw [fin.out]; rfl, rfl⟩
      · obtain ⟨j, rfl⟩ : ∃ j, k = j + 1 := ⟨k - 1, by omega⟩
        obtain ⟨b, off, rfl, hcc⟩ := hc.cells (by rw [← HL.out]; omega)
        have c1 := hcc j (by rw [← HL.out]; omega)
        have hpi : ((j + 1 : Nat) : Int) - 1 = (j : Int) := by omega
        have hd : decide ((0 : Int) < ((j + 1 : Nat) : Int)) = true := decide_eq_true (by omega)
        clear hcc
        by_cases h0 : nth zs j = 0
        · have g0 : (nth zs j == 0) = true := by simpa using h0
          have HD := Lib.hid (topz_down zs (j + 1) (by omega) (by rw [← HL.out]; exact hk) (by simpa using h0))
          clear h0
          go_wp2_with fail
          go_round
          case rel => exact ⟨j, by omega, by go_num, by have h := HD.out; rw [Nat.add_sub_cancel] at h; rw [← h]; exact HT.out⟩
          case measure => simp [intOf]
        · have g0 : (nth zs j == 0) = false := by simpa using h0
          have HD : Hid (topz zs = j + 1) := Lib.hid (by rw [← HT.out]; exact topz_stop zs (j + 1) (by omega) (by rw [← HL.out]; exact hk) (by simpa using h0))
          clear h0
          go_wp2_with fail
          go_meet
          exact ⟨by rw [HD.out]; rfl, rfl⟩
  case rest =>
    obtain ⟨rfl, rfl⟩ := hcut
    have tl := topz_le zs
    rw [← HL.out] at tl
    obtain ⟨k, hk⟩ : ∃ k, k = topz zs := ⟨_, rfl⟩
    rw [← hk] at tl ⊢
    have lk : Hid (N.length = k) := Lib.hid (by rw [LN.out, hk])
    have rt := fun W => run_to (P := Tryz.prog) W 29 64 Tryz.underlying29 size32r a l cap k (by omega) (k : Int) rfl
    clear hk
    go_wp2_with (at_builtin; refine wpList_append_new _ rfl _ _ 29 rfl w.heap.size 64 .u32 4 Tryz.underlying29 info32r _ [] rfl (New.nil _ _ _ _) _ _ k N rfl lk.out.symm cells (by rw [lk.out]; simp; omega) (by rw [lk.out]; simp; omega) (Nat.le_refl _) ?_)
    intro v1 w1 hn1 hg1 _
    have hb1 : Below w.heap.size w w1 := (Below.refl _ _).grown hg1 (Nat.le_refl _) fun g hg => by simp [Value.ownBlock] at hg
    clear hg1
    go_wp2_with fail
    go_ret
    exact ⟨_, rfl, ⟨N, hn1, CN.out, un, VN.out⟩, hb1⟩
end Go.Proofs.YtlolkighnnedfaaGreatDoor
/- signetref7.Times by its contract. -/
set_option linter.unusedVariables false
set_option linter.unusedSimpArgs false
namespace Go.Proofs.YtlolkighnnedfaaGreatDoor
open Go.RowKit Go.Sg

set_option maxHeartbeats 2000000 in
theorem times7_c (a a' : Option Addr) (cap cap' : Nat) (x y : List Int) (w : World) (hx : Sl .u32 w a cap x) (hy : Sl .u32 w a' cap' y) (vx : U32 x) (vy : U32 y) (hlx : x.length ≤ 17592186044416) (hly : y.length ≤ 17592186044416) :
    Calls Tryz.prog 76 #[.slice a x.length cap, .slice a' y.length cap'] w (NatPost (val x * val y) w) := by
  obtain ⟨n, hn⟩ : ∃ n, n = y.length := ⟨_, rfl⟩
  obtain ⟨m, hmm⟩ : ∃ m, m = x.length := ⟨_, rfl⟩
  rw [← hn] at hly ⊢
  rw [← hmm] at hlx ⊢
  have HN := Lib.hid hn
  have HMM := Lib.hid hmm
  clear hn hmm
  go_enter Tryz.func76, Tryz.ntmps76
  go_wp2_with (at_make; refine wpList_make_blk _ rfl _ _ 29 rfl 64 .u32 4 Tryz.underlying29 info32r (m + n) _ _ rfl rfl (by omega) (by omega) (by omega) (by omega) ?_)
  intro w1 hk1 hs1 hb1
  have HS := Lib.hid hs1
  clear hs1
  go_wp2_with fail
  go_loopw [6] (fun t wr => ∃ (i : Nat) (L : List Int), i ≤ m ∧ t = .int .i64 (i : Int) ∧ Blk wr w.heap.size .u32 64 L ∧ L.length = m + n ∧ U32 L ∧
      val (L.take (i + n)) = val (x.take i) * val y ∧ Below w.heap.size w wr)
    (fun t _ => m - (intOf t).toNat)
  case atStart => exact ⟨0, _, by omega, rfl, hk1, by simp, .zeros (by omega) _, by rw [List.take_replicate, val_zeros]; simp [val], hb1⟩
  case round =>
    obtain ⟨i, L, hi, rfl, hL, hLl, uL, hval, hb⟩ := hrel
    have HL := Lib.hid hLl
    have HV := Lib.hid hval
    clear hLl hval
    by_cases hlt : i < m
    · obtain ⟨bx, ox, rfl, hcc⟩ := hx.cells (by rw [← HMM.out]; omega)
      have hcx0 := hcc i (by rw [← HMM.out]; exact hlt)
      have XC := Lib.hid (lb_cast vx i)
      rw [← XC.out] at hcx0
      have hxl := Lib.hid (lb_lt vx i)
      obtain ⟨p, hp⟩ : ∃ p, p = lb x i := ⟨_, rfl⟩
      have HP := Lib.hid hp
      rw [← hp] at hcx0
      have hpR : p ≤ 4294967295 := by have := hxl.out; rw [HP.out]; unfold R at this; omega
      have hd0 : decide ((i : Int) < (m : Int)) = true := decide_eq_true (by omega)
      clear hcc hp
      obtain ⟨wo, hwo⟩ : ∃ wo : World, wo = wr := ⟨_, rfl⟩
      subst hwo
      go_wp2_with fail
      go_loopw [7, 8] (fun c t wr => ∃ (j cn : Nat) (L : List Int), j ≤ n ∧ t = .int .i64 (j : Int) ∧ c = .int .u64 (cn : Int) ∧ cn < R ∧ Blk wr w.heap.size .u32 64 L ∧ L.length = m + n ∧ U32 L ∧
          val (L.take (i + n)) + R ^ (i + j) * cn = val (x.take i) * val y + R ^ i * (p * val (y.take j)) ∧ Below w.heap.size w wr)
        (fun _ t _ => n - (intOf t).toNat)
      case atStart => exact ⟨0, 0, L, by omega, rfl, rfl, by decide, hL, HL.out, uL, by rw [HV.out]; simp [val], hb⟩
      case round =>
        clear HV HL hL uL hb
        obtain ⟨j, cn, L, hj, rfl, rfl, hcn, hL, hLl, uL, hval, hb⟩ := hrel
        have HL := Lib.hid hLl
        have HV := Lib.hid hval
        clear hLl hval
        by_cases hjn : j < n
        · obtain ⟨by_, oy, rfl, hcc⟩ := hy.cells (by have := HN.out; omega)
          have hcy := (hb.cell (World.block_lt_of_cell? w _ (hcc j (by have := HN.out; omega)))).trans (hcc j (by have := HN.out; omega))
          have hcx := (hb.cell (World.block_lt_of_cell? w _ hcx0)).trans hcx0
          have hiL : i + j < L.length := by have := HL.out; omega
          have hcl := hL.cell (i + j) hiL
          have hfr := hL.free (i + j)
          have YC := Lib.hid (lb_cast vy j)
          have OC := Lib.hid (lb_cast uL (i + j))
          rw [← YC.out] at hcy
          rw [← OC.out] at hcl
          have hyl := lb_lt vy j
          have hol := lb_lt uL (i + j)
          have hsq := mul_lt_sq (show p < R by unfold R; omega) hyl
          obtain ⟨q, hq⟩ : ∃ q, q = lb y j := ⟨_, rfl⟩
          obtain ⟨o, ho⟩ : ∃ o, o = lb L (i + j) := ⟨_, rfl⟩
          have HQ := Lib.hid hq
          have HO := Lib.hid ho
          rw [← hq] at hcy hyl hsq
          rw [← ho] at hcl hol
          have hqR : q ≤ 4294967295 := by unfold R at hyl; omega
          have hoR : o ≤ 4294967295 := by unfold R at hol; omega
          have hcR : cn ≤ 4294967295 := by unfold R at hcn; omega
          obtain ⟨pq, hpq⟩ : ∃ pq, pq = p * q := ⟨_, rfl⟩
          have hpq2 : ((p : Int) * (q : Int)) = (pq : Int) := by rw [hpq, Int.natCast_mul]
          rw [← hpq] at hsq
          have HPQ := Lib.hid hpq
          obtain ⟨sm, hsm⟩ : ∃ sm, sm = cn + (pq + o) := ⟨_, rfl⟩
          have hsmb : sm < 18446744073709551616 := by omega
          have hw1 : IntKind.u64.wrap ((p : Int) * (q : Int)) = (pq : Int) := by rw [hpq2, IntKind.wrap_u64]; omega
          have hw2 : IntKind.u64.wrap ((o : Int) + (pq : Int)) = ((o + pq : Nat) : Int) := by rw [IntKind.wrap_u64]; omega
          have hw3 : IntKind.u64.wrap (((o + pq : Nat) : Int) + (cn : Int)) = (sm : Int) := by rw [IntKind.wrap_u64]; omega
          have hw4 : IntKind.i64.wrap ((i : Int) + (j : Int)) = (i : Int) + (j : Int) := by rw [IntKind.wrap_i64]; omega
          have s0 : Hid (bits .and .u64 ((o : Int) + (pq : Int) + (cn : Int)) 4294967295 % 4294967296 = ((sm % R : Nat) : Int)) := Lib.hid (by rw [and_low32 _ (by omega) (by omega), hsm]; unfold R; omega)
          have s1 : Hid (((o : Int) + (pq : Int) + (cn : Int)) / 4294967296 = ((sm / R : Nat) : Int)) := Lib.hid (by rw [hsm]; unfold R; omega)
          have fin : sm / R < R ∧ U32 (L.set (i + j) ((sm % R : Nat) : Int)) ∧
              val ((L.set (i + j) ((sm % R : Nat) : Int)).take (i + n)) + R ^ (i + (j + 1)) * (sm / R) = val (x.take i) * val y + R ^ i * (p * val (y.take (j + 1))) := by
            refine ⟨by rw [hsm]; unfold R; omega, uL.set _ (by omega) (by unfold R; omega), ?_⟩
            have e1 := val_take_set L (i + j) (i + n) ((sm % R : Nat) : Int) (by omega) (by have := HL.out; omega)
            rw [Int.toNat_natCast, ← HO.out, hsm, HPQ.out] at e1
            rw [← Nat.add_assoc, Rpow_next, hsm, HPQ.out]
            refine mul_step HV.out _ e1 (Yp := R ^ j) (Nat.pow_add ..) _ ?_
            rw [val_take_next, ← HQ.out]
          have FIN := Lib.hid fin
          have hx1 : (i : Int) + (j : Int) < (m : Int) + (n : Int) := by omega
          have hx2 : (0 : Int) ≤ (i : Int) + (j : Int) := by omega
          have hd1 : decide ((j : Int) < (n : Int)) = true := decide_eq_true (by omega)
          have hx3 : (i : Int) < (m : Int) := by omega
          have hx4 : (j : Int) < (n : Int) := by omega
          have nx : i + j < m + n := by omega
          clear hcc fin hq ho hpq hiL hyl hol hcn hsm
          go_wp2_with fail
          go_quiet (fail)
          go_wp2_with fail
          go_roundw
          case rel =>
            obtain ⟨f1, f2, f3⟩ := FIN.out
            exact ⟨j + 1, sm / R, L.set (i + j) ((sm % R : Nat) : Int), by omega, by go_num, by rw [s1.out], f1, by rw [s0.out]; exact (show Blk (wr.drewN nq) _ _ _ _ from hL).set _ _, by have := HL.out; simpa using this, f2, f3, (below_drewN hb nq).setCell (Nat.le_refl _) _⟩
          case measure => simp [intOf]; omega
        · obtain rfl : j = n := by omega
          have hcR : cn ≤ 4294967295 := by unfold R at hcn; omega
          have hiL : i + j < L.length := by have := HL.out; omega
          have hcl := hL.cell (i + j) hiL
          have hfr := hL.free (i + j)
          have hL' := hL.set (i + j) (cn : Int)
          have uL' : U32 (L.set (i + j) (cn : Int)) := uL.set _ (by omega) (by omega)
          have hcnm : (cn : Int) % 4294967296 = cn := by omega
          have hx1 : (i : Int) + (j : Int) < (m : Int) + (j : Int) := by omega
          have hb' := hb.setCell (p := ⟨w.heap.size, i + j, none⟩) (Nat.le_refl _) (.int .u32 (cn : Int))
          have fin : Hid (val ((L.set (i + j) (cn : Int)).take (i + 1 + j)) = val (x.take (i + 1)) * val y) := Lib.hid (by
            rw [show i + 1 + j = (i + j) + 1 by omega, val_take_set_succ _ _ _ hiL, Int.toNat_natCast, HV.out, List.take_of_length_le (l := y) (by have := HN.out; omega), val_take_next, ← HP.out, Nat.add_mul]
            rw [Nat.mul_assoc])
          have hlen' : Hid ((L.set (i + j) (cn : Int)).length = m + j) := Lib.hid (by have := HL.out; simpa using this)
          have hd1 : decide ((j : Int) < (j : Int)) = false := by simp
          clear hiL hL uL hb
          go_wp2_with fail
          go_roundw
          case rel => exact ⟨i + 1, _, by omega, by go_num, hL', hlen'.out, uL', fin.out, hb'⟩
          case measure => simp [intOf]; omega
    · obtain rfl : i = m := by omega
      have hd0 : decide ((i : Int) < (i : Int)) = false := by simp
      have hv : Hid (val L = val x * val y) := Lib.hid (by
        have := HV.out
        rw [List.take_of_length_le (by rw [HL.out]; omega), List.take_of_length_le (by rw [← HMM.out]; omega)] at this
        exact this)
      have pc := trim_c _ _ _ _ (hL.sl_full (by rw [HL.out]; omega)) uL (by rw [HL.out]; omega)
      rw [HL.out, hv.out] at pc
      have hbs := hb.size
      go_wp2_with fail
      refine pc.mono ?_; rintro e w2 ⟨v, rfl, hr, hb2⟩
      have r2 := hr.mono hbs
      have hB := hb.trans (hb2.mono hbs)
      clear hr hb2 pc
      go_wp2_with fail
      go_ret
      exact ⟨_, rfl, r2, hB⟩
end Go.Proofs.YtlolkighnnedfaaGreatDoor
