import Derived.Test.YtlolkighnnedfaaGreatDoorZ18
import Derived.Deep.LoopGhost
/- signetref7.Divide by its contract. -/
set_option linter.unusedVariables false
set_option linter.unusedSimpArgs false
namespace Go.Sg
theorem lb_val {xs : List Int} (u : U32 xs) (i : Nat) : lb xs i = val xs / R ^ i % R := by
  by_cases h : i < xs.length
  · have e1 := val_split xs i (by omega)
    have e2 := val_drop xs i h
    have h1 := val_take_lt u i (by omega)
    rw [e2] at e1
    rw [e1, Nat.add_mul_div_left _ _ (Rpow_pos _), Nat.div_eq_of_lt h1, Nat.zero_add, Nat.add_mul_mod_self_left, Nat.mod_eq_of_lt (lb_lt u i)]
  · have h1 := val_lt u
    have h2 : R ^ xs.length ≤ R ^ i := Nat.pow_le_pow_right R_pos (by omega)
    rw [Nat.div_eq_of_lt (by omega), lb, nth_out _ _ (by omega)]
    rfl
/-- A bit is set where all bits up to it are 0. -/
theorem set_bit {Q : List Int} {q j : Nat} (u : U32 Q) (hj : j < 32 * Q.length) (hv : val Q = q * 2 ^ (j + 1)) :
    lb Q (j / 32) ||| 2 ^ (j % 32) = lb Q (j / 32) + 2 ^ (j % 32) ∧ lb Q (j / 32) + 2 ^ (j % 32) < R ∧ U32 (Q.set (j / 32) ((lb Q (j / 32) + 2 ^ (j % 32) : Nat) : Int)) ∧ val (Q.set (j / 32) ((lb Q (j / 32) + 2 ^ (j % 32) : Nat) : Int)) = val Q + 2 ^ j := by
  have hi : j / 32 < Q.length := by omega
  obtain ⟨i, hie⟩ : ∃ i, i = j / 32 := ⟨_, rfl⟩
  obtain ⟨s, hse⟩ : ∃ s, s = j % 32 := ⟨_, rfl⟩
  rw [← hie] at hi ⊢
  rw [← hse]
  have e2 : 2 ^ (j + 1) = R ^ i * 2 ^ (s + 1) := by rw [Rpow_two, ← Nat.pow_add]; congr 1; omega
  have e3 : 2 ^ j = R ^ i * 2 ^ s := by rw [Rpow_two, ← Nat.pow_add]; congr 1; omega
  have hl := lb_lt u i
  have hlv : lb Q i = q * 2 ^ (s + 1) % R := by
    rw [lb_val u i, hv, e2, Nat.mul_left_comm, Nat.mul_div_cancel_left _ (Rpow_pos _)]
  obtain ⟨t, ht⟩ : ∃ t, t = 31 - s := ⟨_, rfl⟩
  have hR : R = 2 ^ (s + 1) * 2 ^ t := by rw [← Nat.pow_add, show s + 1 + t = 32 by omega]; rfl
  have hd : lb Q i = 2 ^ (s + 1) * (q % 2 ^ t) := by rw [hlv, hR, Nat.mul_comm q, Nat.mul_mod_mul_left]
  have hs : 2 ^ s < 2 ^ (s + 1) := Nat.pow_lt_pow_right (by decide) (by omega)
  have hor : lb Q i ||| 2 ^ s = lb Q i + 2 ^ s := by rw [hd, Nat.two_pow_add_eq_or_of_lt hs]
  have hlt : lb Q i + 2 ^ s < R := by
    have h1 : q % 2 ^ t < 2 ^ t := Nat.mod_lt _ (Nat.two_pow_pos _)
    have h2 : 2 ^ (s + 1) * (q % 2 ^ t + 1) ≤ 2 ^ (s + 1) * 2 ^ t := Nat.mul_le_mul_left _ h1
    rw [← hR, Nat.mul_add, ← hd] at h2
    omega
  refine ⟨hor, hlt, u.set _ (by omega) (by unfold R at hlt; omega), ?_⟩
  have h := val_set Q i ((lb Q i + 2 ^ s : Nat) : Int) hi
  rw [Int.toNat_natCast, Nat.mul_add, ← e3] at h
  omega
/-- The document's division, one bit of it. -/
theorem div_bit {N D j r q b : Nat} (hD : 0 < D) (hb : b = N / 2 ^ j % 2) (hr : r = N / 2 ^ (j + 1) % D) (hq : q = N / 2 ^ (j + 1) / D) :
    (2 * r + b < D → N / 2 ^ j % D = 2 * r + b ∧ N / 2 ^ j / D = 2 * q) ∧ (D ≤ 2 * r + b → N / 2 ^ j % D = 2 * r + b - D ∧ N / 2 ^ j / D = 2 * q + 1) ∧ 2 * r + b < 2 * D := by
  have e := div_two_pow N j
  rw [← hb] at e
  have h1 := Nat.div_add_mod (N / 2 ^ (j + 1)) D
  rw [← hr, ← hq] at h1
  have h2 : r < D := by rw [hr]; exact Nat.mod_lt _ hD
  have hb2 : b < 2 := by rw [hb]; exact Nat.mod_lt _ (by decide)
  have e3 : N / 2 ^ j = 2 * r + b + D * (2 * q) := by
    rw [e, ← h1, Nat.mul_left_comm D 2 q]
    omega
  refine ⟨fun h => ?_, fun h => ?_, by omega⟩
  · rw [e3, Nat.add_mul_mod_self_left, Nat.mod_eq_of_lt h, Nat.add_mul_div_left _ _ hD, Nat.div_eq_of_lt h, Nat.zero_add]
    exact ⟨rfl, rfl⟩
  · have e4 : 2 * r + b + D * (2 * q) = (2 * r + b - D) + D * (2 * q + 1) := by rw [Nat.mul_add, Nat.mul_one]; omega
    have h3 : 2 * r + b - D < D := by omega
    rw [e3, e4, Nat.add_mul_mod_self_left, Nat.mod_eq_of_lt h3, Nat.add_mul_div_left _ _ hD, Nat.div_eq_of_lt h3, Nat.zero_add]
    exact ⟨rfl, rfl⟩
theorem double_or {x c : Nat} (hx : x < R) (hc : c ≤ 1) : x * 2 % R ||| c = x * 2 % R + c := by
  have e : x * 2 % R = 2 ^ 1 * (x % 2147483648) := by unfold R at *; omega
  rw [e, ← Nat.two_pow_add_eq_or_of_lt (by omega)]
theorem dbl_step {T P c V x b : Nat} (h : T + P * c = 2 * V + b) : (T + P * (x * 2 % R + c)) + P * R * (x / 2147483648) = 2 * (V + P * x) + b := by
  have e : x * 2 % R + R * (x / 2147483648) = 2 * x := by unfold R; omega
  have e2 : P * (x * 2 % R) + P * R * (x / 2147483648) = 2 * (P * x) := by
    rw [Nat.mul_assoc, ← Nat.mul_add, e, Nat.mul_left_comm]
  rw [Nat.mul_add, Nat.mul_add]
  omega
theorem nth_take_eq {L L0 : List Int} {k : Nat} (h : ∀ j, k ≤ j → nth L j = nth L0 j) : nth L k = nth L0 k := h k (Nat.le_refl _)
end Go.Sg
namespace Go.Proofs.YtlolkighnnedfaaGreatDoor
open Go.RowKit Go.Sg

/-- Quotient and rest. -/
def Div7Post (m n : Nat) (w : World) (e : Ending) (w' : World) : Prop := ∃ vq vr, e = .returned (.tuple #[vq, vr]) ∧ NatRes w.heap.size w' vq (m / n) ∧ NatRes w.heap.size w' vr (m % n) ∧ Below w.heap.size w w'
def IsU (n : Nat) (v : Value) : Prop := v = .int .u32 (n : Int)
def DRelG (N D gq gr la ld : Nat) (w : World) (i : Nat) (t : Value) (wr : World) : Prop := ∃ (Q L : List Int), i ≤ 32 * la ∧ t = .int .i64 ((i : Int) - 1) ∧ Blk wr gq .u32 64 Q ∧ Q.length = la ∧ U32 Q ∧ val Q = N / 2 ^ i / D * 2 ^ i ∧
  Blk wr gr .u32 64 L ∧ L.length = ld + 1 ∧ U32 L ∧ val L = N / 2 ^ i % D ∧ Below w.heap.size w wr
def DblG (gr ld b : Nat) (L0 : List Int) (w : World) (g : Nat) (c t : Value) (wr : World) : Prop := ∃ (k cn : Nat) (L : List Int), k ≤ ld + 1 ∧ g + k = ld + 1 ∧ t = .int .i64 (k : Int) ∧ c = .int .u32 (cn : Int) ∧ cn ≤ 1 ∧ Blk wr gr .u32 64 L ∧ L.length = ld + 1 ∧ U32 L ∧
  val (L.take k) + R ^ k * cn = 2 * val (L0.take k) + b ∧ (∀ j, k ≤ j → nth L j = nth L0 j) ∧ w.grownBy wr (some gr)
def SubG (gr ld : Nat) (L0 Y : List Int) (w : World) (g : Nat) (c t : Value) (wr : World) : Prop := ∃ (k bw : Nat) (L : List Int), k ≤ ld + 1 ∧ g + k = ld + 1 ∧ t = .int .i64 (k : Int) ∧ c = .int .u64 (bw : Int) ∧ bw ≤ 1 ∧ Blk wr gr .u32 64 L ∧ L.length = ld + 1 ∧ U32 L ∧
  val (L.take k) + val (Y.take k) = val (L0.take k) + R ^ k * bw ∧ (∀ j, k ≤ j → nth L j = nth L0 j) ∧ w.grownBy wr (some gr)

set_option maxHeartbeats 8000000 in
set_option maxRecDepth 20000 in
theorem divide7_c (a a' : Option Addr) (cap cap' : Nat) (x y : List Int) (w : World) (hx : Sl .u32 w a cap x) (hy : Sl .u32 w a' cap' y) (ux : U32 x) (uy : U32 y) (hlx : x.length ≤ 17592186044416) (hly : y.length ≤ 17592186044416) (h0 : 0 < val y) :
    Calls Tryz.prog 26 #[.slice a x.length cap, .slice a' y.length cap'] w (Div7Post (val x) (val y) w) := by
  have lz : ∀ {zs xs : List Int}, Canon zs → U32 zs → U32 xs → val zs = val xs → xs.length ≤ 17592186044416 → zs.length ≤ 17592186044416 := fun cz uz ux e hl => Nat.le_trans (cz.len_lt uz (by rw [e]; exact val_lt ux)) hl
  go_enter Tryz.func26, Tryz.ntmps26
  go_wp2_with fail
  refine (trim_c a cap x w hx ux (by omega)).mono ?_; rintro e w1 ⟨v1, rfl, hn, hb⟩
  replace hy := hy.below hb
  obtain ⟨aA, cA, X, rfl, sX, cX, uX, hvX⟩ := hn.sl
  have lX := lz cX uX ux hvX hlx
  have hB := hb
  clear hn hb
  go_wp2_with fail
  refine (trim_c a' cap' y w1 hy uy (by omega)).mono ?_; rintro e w2 ⟨v2, rfl, hn, hb⟩
  replace sX := sX.below hb
  obtain ⟨aD, cD, Y, rfl, sY, cY, uY, hvY⟩ := hn.sl
  have lY := lz cY uY uy hvY hly
  replace hB := hB.trans (hb.mono hB.size)
  obtain ⟨N, hN⟩ : ∃ N, N = val X := ⟨_, rfl⟩
  obtain ⟨D, hD⟩ : ∃ D, D = val Y := ⟨_, rfl⟩
  have D0 : Hid (0 < D) := Lib.hid (by rw [hD, hvY]; exact h0)
  have NX : Hid (val x = N) := Lib.hid (by rw [hN, hvX])
  have DY : Hid (val y = D) := Lib.hid (by rw [hD, hvY])
  have bX := fun (i : Nat) (W : World) (s : Sl .u32 W aA cA X) (h : i ≤ 9223372036854775807) => bit7_c aA cA i X W s uX h
  rw [← hN] at bX
  have hDlt : D < R ^ Y.length := by rw [hD]; exact val_lt uY
  have hXlt : N < 2 ^ (32 * X.length) := by rw [hN, ← Rpow_two]; exact val_lt uX
  obtain ⟨la, hla⟩ : ∃ la, la = X.length := ⟨_, rfl⟩
  obtain ⟨ld, hld⟩ : ∃ ld, ld = Y.length := ⟨_, rfl⟩
  rw [← hla] at bX lX hXlt ⊢
  rw [← hld] at hDlt lY ⊢
  have HLD := Lib.hid hld
  have HD := Lib.hid hD
  have HDLT := Lib.hid hDlt
  have HXLT := Lib.hid hXlt
  have BX := Lib.hid bX
  clear hn hb hy hx ux uy hvX hvY hlx hly h0 cX cY hla hN hld hD lz hDlt hXlt bX
  have hB2 := hB.size
  have apX : ∀ b o, aA = some ⟨b, o, none⟩ → 0 < X.length → b < w2.heap.size := fun b o e hp => by subst e; exact sX.cells.lt hp
  have apD : ∀ b o, aD = some ⟨b, o, none⟩ → 0 < Y.length → b < w2.heap.size := fun b o e hp => by subst e; exact sY.cells.lt hp
  have APX := Lib.hid apX
  have APD := Lib.hid apD
  clear apX apD
  go_wp2_with (at_make; refine wpList_make_blk _ rfl _ _ 29 rfl 64 .u32 4 Tryz.underlying29 info32r la _ _ rfl rfl rfl rfl (by omega) (by omega) ?_)
  intro w3 hk3 hs3 hb3
  replace sX := sX.below hb3
  replace sY := sY.below hb3
  replace hB := hB.trans (hb3.mono hB.size)
  obtain ⟨gq, hgq⟩ : ∃ g, g = w2.heap.size := ⟨_, rfl⟩
  rw [← hgq] at hk3 hs3 hB2 APX APD ⊢
  have gq3 : gq < w3.heap.size := by omega
  clear hb3 hs3 hgq
  go_wp2_with (at_make; refine wpList_make_blk _ rfl _ _ 29 rfl 64 .u32 4 Tryz.underlying29 info32r (ld + 1) _ _ rfl rfl (by omega) (by omega) (by omega) (by omega) ?_)
  intro w4 hk4 hs4 hb4
  replace sX := sX.below hb4
  replace sY := sY.below hb4
  replace hk3 := hk3.below hb4 gq3
  replace hB := hB.trans (hb4.mono hB.size)
  obtain ⟨gr, hgr⟩ : ∃ g, g = w3.heap.size := ⟨_, rfl⟩
  rw [← hgr] at hk4 ⊢
  have gne : gq < gr := by omega
  have gqr : gq ≠ gr := by omega
  have grq : gr ≠ gq := by omega
  have gq0 : w.heap.size ≤ gq := hB2
  have gr0 : w.heap.size ≤ gr := by omega
  have hst : DRelG N D gq gr la ld w (32 * la) (.int .i64 (32 * (la : Int) - 1)) w4 := by
    refine ⟨_, _, Nat.le_refl _, by congr 1, hk3, by simp, .zeros (by omega) _, ?_, hk4, by simp, .zeros (by omega) _, ?_, hB⟩
    · rw [val_zeros, Nat.div_eq_of_lt HXLT.out, Nat.zero_div, Nat.zero_mul]
    · rw [val_zeros, Nat.div_eq_of_lt HXLT.out, Nat.zero_mod]
  clear hk3 hk4 hs4 hb4 hgr gq3 hB2
  have SX := Lib.hid sX
  have SY := Lib.hid sY
  have hlt4 : w.heap.size ≤ w4.heap.size := hB.size
  clear sX sY hB
  go_wp2_with fail
  go_loopg [8] (32 * la) (fun g t wr => DRelG N D gq gr la ld w g t wr ∧ (Sl .u32 wr aA cA X ∧ Sl .u32 wr aD cD Y))
  case atStart => exact ⟨hst, SX.out, SY.out⟩
  case round =>
    clear hst SX SY
    obtain ⟨⟨Q, L, hi, rfl, bQ, lQ, uQ, vQ, bL, lL, uL, vL, hB⟩, sX, sY⟩ := hrel
    obtain ⟨i, hig⟩ : ∃ i, i = gk := ⟨_, rfl⟩
    rw [← hig] at hi vQ vL ⊢
    have HG := Lib.hid hig
    have LQ := Lib.hid lQ
    have LL := Lib.hid lL
    have VQ := Lib.hid vQ
    have VL := Lib.hid vL
    clear lQ lL vQ vL hig
    obtain ⟨wy, hwy⟩ : ∃ x : World, x = wr := ⟨_, rfl⟩
    subst hwy
    have hbs := hB.size
    cases i with
    | zero =>
      have e1 : ((0 : Nat) : Int) - 1 = -1 := by omega
      rw [e1]
      have fq := trim_c _ _ _ wy (bQ.sl_full (by rw [LQ.out]; omega)) uQ (by rw [LQ.out]; omega)
      rw [LQ.out, VQ.out, Nat.pow_zero, Nat.div_one, Nat.mul_one] at fq
      have fr := fun W (hb : Below wy.heap.size wy W) => trim_c _ _ _ W ((bL.below hb bL.lt).sl_full (by rw [LL.out]; omega)) uL (by rw [LL.out]; omega)
      rw [LL.out, VL.out, Nat.pow_zero, Nat.div_one] at fr
      clear e1 VQ VL LQ LL uQ uL
      go_wp2_with fail
      refine fq.mono ?_; rintro e w5 ⟨v5, rfl, r5, hb5⟩
      have fr5 := fr w5 hb5
      have hB5 := hB.trans (hb5.mono hbs)
      clear fq fr
      go_wp2_with fail
      refine fr5.mono ?_; rintro e w6 ⟨v6, rfl, r6, hb6⟩
      have q6 := (r5.mono hbs).below hb6
      have q7 := r6.mono hB5.size
      have hB6 := hB5.trans (hb6.mono hB5.size)
      clear fr5 r5 r6 hb5 hb6
      rw [← NX.out, ← DY.out] at q6 q7
      go_wp2_with fail
      go_ret2
      exact ⟨_, _, rfl, q6, q7, hB6⟩
    | succ j =>
      have e1 : ((j + 1 : Nat) : Int) - 1 = (j : Int) := by omega
      rw [e1]
      have E1 := Lib.hid e1
      have hj0 : (0 : Int) ≤ (j : Int) := by omega
      have hd0 : decide ((0 : Int) ≤ (j : Int)) = true := decide_eq_true hj0
      have jla : j < 32 * la := by omega
      have jx : (j : Int) / 32 = ((j / 32 : Nat) : Int) := by omega
      have bt := BX.out j wy sX (by omega)
      obtain ⟨b, hb0⟩ : ∃ b, b = N / 2 ^ j % 2 := ⟨_, rfl⟩
      have hb2 : b < 2 := by rw [hb0]; exact Nat.mod_lt _ (by decide)
      rw [← hb0] at bt
      have HB0 := Lib.hid hb0
      clear e1 hb0
      go_wp2_with fail
      refine bt.mono ?_; rintro e w' ⟨rfl, rfl⟩
      clear bt
      obtain ⟨bb, hbb⟩ : ∃ bb, bb = decide (b = 1) := ⟨_, rfl⟩
      rw [← hbb]
      have HBB := Lib.hid hbb
      clear hbb
      go_upto_if 37 with fail
      go_cut [9] (fun c wx => IsU b c ∧ wy = wx)
      case first =>
        cases bb
        · have hbz : b = 0 := by have := HBB.out.symm; have := of_decide_eq_false this; omega
          subst hbz
          go_wp2_with fail
          go_meet
          exact ⟨rfl, rfl⟩
        · have hbz : b = 1 := by have := HBB.out.symm; exact of_decide_eq_true this
          subst hbz
          go_wp2_with fail
          go_meet
          exact ⟨rfl, rfl⟩
      case rest =>
        obtain ⟨rfl, rfl⟩ := hcut
        go_wp2_with fail
        go_loopg [9, 10] (ld + 1) (fun g c t wx => DblG gr ld b L wy g c t wx)
        case atStart => exact ⟨0, b, L, by omega, by omega, rfl, rfl, by omega, bL, LL.out, uL, by simp [val], fun _ _ => rfl, rfl, rfl, rfl, Nat.le_refl _, fun _ _ _ => rfl⟩
        case round =>
          obtain ⟨k, cn, L1, hk, hgk, rfl, rfl, hc1, bL1, lL1, uL1, vL1, sL1, hg1⟩ := hrel
          have HGK := Lib.hid hgk
          have LL1 := Lib.hid lL1
          have VL1 := Lib.hid vL1
          have SL1 := Lib.hid sL1
          clear hgk lL1 vL1 sL1
          by_cases hkl : k < ld + 1
          · have c1 := bL1.cell k (by rw [LL1.out]; exact hkl)
            have f1 := bL1.free k
            have hx := lb_lt uL1 k
            rw [← lb_cast uL1] at c1
            obtain ⟨z, hz⟩ : ∃ z, z = lb L1 k := ⟨_, rfl⟩
            rw [← hz] at c1 hx
            have hz4 : (z : Int) ≤ 4294967295 := by unfold R at hx; omega
            have hz0 : (0 : Int) ≤ (z : Int) := by omega
            have hc4 : (cn : Int) ≤ 1 := by omega
            have o1 : Hid (bits .or .u32 ((z : Int) * 2 % 4294967296) (cn : Int) = ((z * 2 % R + cn : Nat) : Int)) := Lib.hid (by
              rw [show (z : Int) * 2 % 4294967296 = ((z * 2 % R : Nat) : Int) by unfold R; omega, u32_or_nat _ _ (by unfold R; omega) (by omega), double_or hx hc1])
            have o2 : Hid ((z : Int) / 2147483648 = ((z / 2147483648 : Nat) : Int)) := Lib.hid (by omega)
            have fin : Hid (Blk (wy.setCell ⟨gr, 0, none⟩ (.int .u32 0)) gr .u32 64 (L.set 0 0) ∨ True) := Lib.hid (.inr trivial)
            have hkd : (k : Int) < (ld : Int) + 1 := by omega
            have hd1 : decide ((k : Int) < (ld : Int) + 1) = true := decide_eq_true hkd
            have hn1 : k < ld + 1 := hkl
            have FIN : Hid (U32 (L1.set k ((z * 2 % R + cn : Nat) : Int)) ∧ (L1.set k ((z * 2 % R + cn : Nat) : Int)).length = ld + 1 ∧ z / 2147483648 ≤ 1 ∧
                val ((L1.set k ((z * 2 % R + cn : Nat) : Int)).take (k + 1)) + R ^ (k + 1) * (z / 2147483648) = 2 * val (L.take (k + 1)) + b ∧ (∀ j, k + 1 ≤ j → nth (L1.set k ((z * 2 % R + cn : Nat) : Int)) j = nth L j)) := Lib.hid (by
              have hkL : k < L1.length := by rw [LL1.out]; exact hkl
              refine ⟨uL1.set _ (by omega) (by unfold R; omega), by rw [List.length_set, LL1.out], by unfold R at hx; omega, ?_, fun j hj => ?_⟩
              · have e0 : lb L k = z := by rw [hz, lb, lb, SL1.out k (Nat.le_refl _)]
                rw [val_take_set_succ _ _ _ hkL, Int.toNat_natCast, Rpow_next, val_take_next, e0]
                exact dbl_step VL1.out
              · rw [nth_set _ _ _ _ hkL, if_neg (by omega)]
                exact SL1.out j (by omega))
            clear hz hx fin
            go_wp2_with fail
            go_roundg (ld - k)
            case measure => (have := HGK.out; omega)
            case rel =>
              obtain ⟨f1', f2', f3', f4', f5'⟩ := FIN.out
              rw [o1.out]
              exact ⟨k + 1, z / 2147483648, _, by omega, by omega, by go_num, by rw [o2.out], f3', bL1.set _ _, f2', f1', f4', f5', grownBy_trans hg1 (grownBy_set _ _ _)⟩
          · obtain rfl : k = ld + 1 := by omega
            have hkd : ¬ ((ld : Int) + 1 < (ld : Int) + 1) := by omega
            have hd1 : decide (((ld + 1 : Nat) : Int) < (ld : Int) + 1) = false := decide_eq_false (by omega)
            obtain ⟨h1, h2, h3⟩ := div_bit (N := N) (D := D) (j := j) D0.out HB0.out rfl rfl
            have VL2 := VL.out
            obtain ⟨r, hr⟩ : ∃ r, r = N / 2 ^ (j + 1) % D := ⟨_, rfl⟩
            obtain ⟨q, hq⟩ : ∃ q, q = N / 2 ^ (j + 1) / D := ⟨_, rfl⟩
            have VQ2 := VQ.out
            rw [← hr] at VL2 h1 h2 h3
            rw [← hq] at VQ2 h1 h2
            have hv1 := VL1.out
            rw [List.take_of_length_le (by rw [LL1.out]; omega), List.take_of_length_le (by rw [LL.out]; omega), VL2] at hv1
            have hDR : 2 * D ≤ R ^ (ld + 1) := by
              have := HDLT.out
              rw [Rpow_next]
              have h5 : 1 * R ≤ R ^ ld * R := Nat.mul_le_mul_right _ (Rpow_pos _)
              have h6 : D * R ≤ R ^ ld * R := Nat.mul_le_mul_right _ (Nat.le_of_lt this)
              have h7 : D * 2 ≤ D * R := Nat.mul_le_mul_left _ (by decide)
              omega
            have hcn : cn = 0 := by
              rcases Nat.eq_zero_or_pos cn with h | h
              · exact h
              · have h8 : R ^ (ld + 1) * 1 ≤ R ^ (ld + 1) * cn := Nat.mul_le_mul_left _ h
                omega
            subst hcn
            rw [Nat.mul_zero, Nat.add_zero] at hv1
            have W1 := Lib.hid hv1
            have H1 := Lib.hid h1
            have H2 := Lib.hid h2
            have VQ3 := Lib.hid VQ2
            have bQ2 := bQ.grown hg1 (by simp; omega)
            have sX2 := sX.grown' hg1 (fun bb o e hp e2 => by have := APX.out bb o e hp; have := Option.some.inj e2; omega)
            have sY2 := sY.grown' hg1 (fun bb o e hp e2 => by have := APD.out bb o e hp; have := Option.some.inj e2; omega)
            have hB2 := hB.grown hg1 hB.size (fun g hg => by have := Option.some.inj hg; omega)
            have cc := cmp7_c (some ⟨gr, 0, none⟩) aD (ld + 1) cD L1 Y wr (by have := bL1.sl_full (by rw [LL1.out]; omega); rwa [LL1.out] at this) sY2 uL1 uY
            rw [LL1.out, ← HLD.out, W1.out, ← HD.out] at cc
            clear VL1 SL1 HGK hr hq hv1 hDR h1 h2 VL2 VQ2 hd1 hkd bL bQ sX sY hB hg1 VQ VL
            by_cases hge : D ≤ 2 * r + b
            · have hci : 0 ≤ cmpI (2 * r + b) D := by unfold cmpI; rw [if_neg (by omega)]; split <;> omega
              obtain ⟨ci, hcc⟩ : ∃ ci, ci = cmpI (2 * r + b) D := ⟨_, rfl⟩
              rw [← hcc] at hci cc
              have hdc : decide ((0 : Int) ≤ ci) = true := decide_eq_true hci
              obtain ⟨f1, f2⟩ := H2.out hge
              have F1 := Lib.hid f1
              have F2 := Lib.hid f2
              have GE := Lib.hid hge
              clear hcc f1 f2 hge H1 H2
              go_wp2_with fail
              refine cc.mono ?_; rintro e w' ⟨rfl, rfl⟩
              clear cc
              obtain ⟨wz, hwz⟩ : ∃ x : World, x = wr := ⟨_, rfl⟩
              subst hwz
              go_wp2_with fail
              go_loopg [12, 13] (ld + 1) (fun g c t wx => SubG gr ld L1 Y wz g c t wx)
              case atStart => exact ⟨0, 0, L1, by omega, by omega, rfl, rfl, by omega, bL1, LL1.out, uL1, by simp [val], fun _ _ => rfl, rfl, rfl, rfl, Nat.le_refl _, fun _ _ _ => rfl⟩
              case round =>
                clear bL1
                obtain ⟨k, bw, L2, hk, hgk, rfl, rfl, hb1, bL2, lL2, uL2, vL2, sL2, hg2⟩ := hrel
                have HGK := Lib.hid hgk
                have LL2 := Lib.hid lL2
                have VL2 := Lib.hid vL2
                have SL2 := Lib.hid sL2
                clear hgk lL2 vL2 sL2
                by_cases hkl : k < ld + 1
                · have c1 := bL2.cell k (by rw [LL2.out]; exact hkl)
                  have f1 := bL2.free k
                  have hx := lb_lt uL2 k
                  rw [← lb_cast uL2] at c1
                  have ly := limb7_c aD cD k Y wr (sY2.grown' hg2 (fun bb o e hp e2 => by have := APD.out bb o e hp; have := Option.some.inj e2; omega)) uY (by omega)
                  rw [← HLD.out, ← lb_cast uY] at ly
                  have hyl := lb_lt uY k
                  obtain ⟨z, hz⟩ : ∃ z, z = lb L2 k := ⟨_, rfl⟩
                  obtain ⟨yy, hyy⟩ : ∃ yy, yy = lb Y k := ⟨_, rfl⟩
                  rw [← hz] at c1 hx
                  rw [← hyy] at ly hyl
                  have hz4 : (z : Int) ≤ 4294967295 := by unfold R at hx; omega
                  have hy4 : (yy : Int) ≤ 4294967295 := by unfold R at hyl; omega
                  have hb4 : (bw : Int) ≤ 1 := by omega
                  have hkd : (k : Int) < (ld : Int) + 1 := by omega
                  have hd1 : decide ((k : Int) < (ld : Int) + 1) = true := decide_eq_true hkd
                  have hn1 : k < ld + 1 := hkl
                  have gen : ∀ d b' : Nat, d < R → b' ≤ 1 → d + yy + bw = z + R * b' → U32 (L2.set k (d : Int)) ∧ (L2.set k (d : Int)).length = ld + 1 ∧
                      val ((L2.set k (d : Int)).take (k + 1)) + val (Y.take (k + 1)) = val (L1.take (k + 1)) + R ^ (k + 1) * b' ∧ (∀ j, k + 1 ≤ j → nth (L2.set k (d : Int)) j = nth L1 j) := by
                    intro d b' hd hb' he
                    have hkL : k < L2.length := by rw [LL2.out]; exact hkl
                    refine ⟨uL2.set _ (by omega) (by unfold R at hd; omega), by rw [List.length_set, LL2.out], ?_, fun j hj => ?_⟩
                    · have e0 : lb L1 k = z := by rw [hz, lb, lb, SL2.out k (Nat.le_refl _)]
                      rw [val_take_set_succ _ _ _ hkL, Int.toNat_natCast, Rpow_next, val_take_next L1, val_take_next Y, e0, ← hyy]
                      exact sub_step VL2.out he
                    · rw [nth_set _ _ _ _ hkL, if_neg (by omega)]
                      exact SL2.out j (by omega)
                  have GEN := Lib.hid gen
                  clear gen hz hyy
                  by_cases hlt : z < yy + bw
                  · have hlt2 : (z : Int) < (yy : Int) + (bw : Int) := by omega
                    have hd2 : decide ((z : Int) < (yy : Int) + (bw : Int)) = true := decide_eq_true hlt2
                    have o1 : Hid ((z : Int) + 4294967296 - ((yy : Int) + (bw : Int)) = ((z + R - (yy + bw) : Nat) : Int)) := Lib.hid (by unfold R; omega)
                    have GG := Lib.hid (GEN.out (z + R - (yy + bw)) 1 (by omega) (by omega) (by unfold R at *; omega))
                    clear hx hyl GEN hlt
                    go_wp2_with fail
                    refine ly.mono ?_; rintro e w' ⟨rfl, rfl⟩
                    go_wp2_with fail
                    go_roundg (ld - k)
                    case measure => (have := HGK.out; omega)
                    case rel =>
                      obtain ⟨f1', f2', f3', f4'⟩ := GG.out
                      rw [o1.out]
                      exact ⟨k + 1, 1, _, by omega, by omega, by go_num, rfl, by omega, bL2.set _ _, f2', f1', f3', f4', grownBy_trans hg2 (grownBy_set _ _ _)⟩
                  · have hlt2 : ¬ (z : Int) < (yy : Int) + (bw : Int) := by omega
                    have hd2 : decide ((z : Int) < (yy : Int) + (bw : Int)) = false := decide_eq_false hlt2
                    have o1 : Hid ((z : Int) - ((yy : Int) + (bw : Int)) = ((z - (yy + bw) : Nat) : Int)) := Lib.hid (by omega)
                    have GG := Lib.hid (GEN.out (z - (yy + bw)) 0 (by omega) (by omega) (by omega))
                    have hge2 : (yy : Int) + (bw : Int) ≤ (z : Int) := by omega
                    clear hx hyl GEN hlt
                    go_wp2_with fail
                    refine ly.mono ?_; rintro e w' ⟨rfl, rfl⟩
                    go_wp2_with fail
                    go_roundg (ld - k)
                    case measure => (have := HGK.out; omega)
                    case rel =>
                      obtain ⟨f1', f2', f3', f4'⟩ := GG.out
                      rw [o1.out]
                      exact ⟨k + 1, 0, _, by omega, by omega, by go_num, rfl, by omega, bL2.set _ _, f2', f1', f3', f4', grownBy_trans hg2 (grownBy_set _ _ _)⟩
                · obtain rfl : k = ld + 1 := by omega
                  have hkd : ¬ ((ld : Int) + 1 < (ld : Int) + 1) := by omega
                  have hd1 : decide (((ld + 1 : Nat) : Int) < (ld : Int) + 1) = false := decide_eq_false (by omega)
                  have hv := VL2.out
                  rw [List.take_of_length_le (by rw [LL2.out]; omega), List.take_of_length_le (by rw [← HLD.out]; omega), List.take_of_length_le (by rw [LL1.out]; omega), W1.out, ← HD.out] at hv
                  have hT := val_lt uL2
                  rw [LL2.out] at hT
                  have hbw : bw = 0 := by
                    rcases Nat.eq_zero_or_pos bw with h | h
                    · exact h
                    · have h8 : R ^ (ld + 1) * 1 ≤ R ^ (ld + 1) * bw := Nat.mul_le_mul_left _ h
                      have := GE.out
                      omega
                  subst hbw
                  have V2 : Hid (val L2 = N / 2 ^ j % D) := Lib.hid (by rw [F1.out]; omega)
                  have bQ3 := bQ2.grown hg2 (by simp; omega)
                  have sX3 := sX2.grown' hg2 (fun bb o e hp e2 => by have := APX.out bb o e hp; have := Option.some.inj e2; omega)
                  have sY3 := sY2.grown' hg2 (fun bb o e hp e2 => by have := APD.out bb o e hp; have := Option.some.inj e2; omega)
                  have hB3 := hB2.grown hg2 hB2.size (fun g hg => by have := Option.some.inj hg; omega)
                  obtain ⟨p1, p2, p3, p4⟩ := set_bit (q := q) (j := j) uQ (by rw [LQ.out]; exact jla) VQ3.out
                  have jq : j / 32 < la := by omega
                  have cq := bQ3.cell (j / 32) (by rw [LQ.out]; exact jq)
                  have fq := bQ3.free (j / 32)
                  rw [← lb_cast uQ] at cq
                  have hz4 := lb_lt uQ (j / 32)
                  obtain ⟨z, hz⟩ : ∃ z, z = lb Q (j / 32) := ⟨_, rfl⟩
                  rw [← hz] at cq p1 p2 p3 p4 hz4
                  obtain ⟨s, hs⟩ : ∃ s, s = j % 32 := ⟨_, rfl⟩
                  rw [← hs] at p1 p2 p3 p4
                  have js : (j : Int) % 32 = (s : Int) := by omega
                  have s32 : s < 32 := by omega
                  have s32i : (s : Int) < 32 := by omega
                  obtain ⟨ts, hts⟩ : ∃ ts, ts = 2 ^ s := ⟨_, rfl⟩
                  have tsi : ((2 : Int) ^ s) = (ts : Int) := by rw [hts, Int.natCast_pow]; rfl
                  rw [← hts] at p1 p2 p3 p4
                  have ts4 : ts < 4294967296 := by unfold R at p2; omega
                  have tsm : (ts : Int) % 4294967296 = (ts : Int) := by omega
                  have o1 : Hid (bits .or .u32 (z : Int) (ts : Int) = ((z + ts : Nat) : Int)) := Lib.hid (by rw [u32_or_nat _ _ (by unfold R at hz4; omega) ts4, p1])
                  obtain ⟨jd, hjd⟩ : ∃ jd, jd = j / 32 := ⟨_, rfl⟩
                  have jdx : (j : Int) / 32 = (jd : Int) := by omega
                  rw [← hjd] at cq fq p3 p4 jq
                  have P3 := Lib.hid p3
                  have P4 : Hid (val (Q.set jd ((z + ts : Nat) : Int)) = N / 2 ^ j / D * 2 ^ j) := Lib.hid (by
                    rw [p4, VQ3.out, F2.out, Nat.pow_succ, Nat.add_mul, Nat.one_mul, Nat.mul_comm 2 q, Nat.mul_assoc, Nat.mul_comm (2 ^ j) 2])
                  clear p1 p2 p3 p4 hz hs hts hjd hz4 hv hT VL2 SL2 hg2 bQ2 sX2 sY2 hB2 jx hd1 hkd
                  go_wp2_with fail
                  rw [o1.out]
                  have gs := grownBy_set wr ⟨gq, jd, none⟩ (.int .u32 ((z + ts : Nat) : Int))
                  have sX4 := sX3.grown' gs (fun bb o e hp e2 => by have := APX.out bb o e hp; have := Option.some.inj e2; simp at this; omega)
                  have sY4 := sY3.grown' gs (fun bb o e hp e2 => by have := APD.out bb o e hp; have := Option.some.inj e2; simp at this; omega)
                  go_roundg j
                  case measure => (have := HG.out; omega)
                  case rel => exact ⟨⟨_, L2, by omega, rfl, bQ3.set _ _, by rw [List.length_set, LQ.out], P3.out, P4.out, bL2.other grq _ _, LL2.out, uL2, V2.out, hB3.setCell (p := ⟨gq, jd, none⟩) gq0 _⟩, sX4, sY4⟩
            · have hci : cmpI (2 * r + b) D = -1 := cmpI_lt (by omega)
              rw [hci] at cc
              obtain ⟨f1, f2⟩ := H1.out (by omega)
              have F1 := Lib.hid f1
              have F2 : Hid (val Q = N / 2 ^ j / D * 2 ^ j) := Lib.hid (by rw [f2, VQ3.out, Nat.pow_succ, Nat.mul_comm 2 q, Nat.mul_assoc, Nat.mul_comm (2 ^ j) 2])
              clear hci f1 f2 hge H1 H2
              go_wp2_with fail
              refine cc.mono ?_; rintro e w' ⟨rfl, rfl⟩
              clear cc
              go_wp2_with fail
              go_roundg j
              case measure => (have := HG.out; omega)
              case rel => exact ⟨⟨Q, L1, by omega, rfl, bQ2, LQ.out, uQ, F2.out, bL1, LL1.out, uL1, by rw [W1.out, F1.out], hB2⟩, sX2, sY2⟩
end Go.Proofs.YtlolkighnnedfaaGreatDoor
