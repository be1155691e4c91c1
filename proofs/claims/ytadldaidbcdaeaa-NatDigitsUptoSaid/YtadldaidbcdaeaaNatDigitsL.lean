/- signetlaw6.pow and signetlaw6.NatDigits, its walk. (Printed by gen_natdigits.py.) -/
import Derived.Test.YtadldaidbcdaeaaDigN
import Derived.Test.YtadldaidbcdaeaaSliceN
import Derived.Deep.RegionHeld3
import Derived.Deep.DeepCutAuto
import Derived.Deep.CutBlock
import Derived.Outline
import Derived.Test.YtadldaidbcdaeaaLawNineB
set_option linter.unusedVariables false
set_option linter.unusedSimpArgs false
namespace Go.Proofs.Ytadldaidbcdaeaa
open Go.RowKit Go.Sg

theorem size8n : (Try.prog.info? 5).map (·.size) = some 1 := by kernel_rfl
theorem one_u32 : U32 [1] := .of_mem (by omega) (by simp)
theorem pow_c (k : Nat) (w : World) (hk : k ≤ 131072) : Calls Try.prog 56 #[.int .i64 (k : Int)] w (NatPost (2 ^ k) w) := by
  have hkk : Blk (w.alloc (.cells #[.int .u32 1] 52)) w.heap.size .u32 52 [1] := cells_new .u32 w 52 [1] #[.int .u32 1] rfl _ rfl
  have hs := hkk.sl_full (by simp)
  have hb := (Below.refl w.heap.size w).alloc (Nat.le_refl _) (.cells #[.int .u32 1] 52)
  have sc := Shl_c _ _ [1] (k : Int) _ hs one_u32 (by simp) ⟨by omega, by omega⟩
  have e : val [1] * 2 ^ shK (k : Int) = 2 ^ k := by
    rw [show val [1] = 1 from rfl, Nat.one_mul, show shK (k : Int) = k by unfold shK; omega]
  rw [e] at sc
  clear e hkk hs
  obtain ⟨p, hp⟩ : ∃ p, p = 2 ^ k := ⟨_, rfl⟩
  rw [← hp] at sc ⊢
  clear hp
  go_enter Try.func56, Try.ntmps56
  go_wp2_with fail
  refine sc.mono ?_; rintro e w1 ⟨v1, rfl, hn, hb1⟩
  go_wp2_with fail
  go_ret
  exact ⟨_, rfl, (by obtain ⟨zs, h1, h2⟩ := hn; exact ⟨zs, h1.mono hb.size, h2⟩), hb.trans (hb1.mono hb.size)⟩

def LeadRel (bs : List Int) (w : World) (t : Value) (wx : World) : Prop := ∃ j : Nat, j ≤ bs.length ∧ t = .int .i64 (j : Int) ∧ (∀ m, m < j → nth bs m = 0) ∧ (j = bs.length ∨ nth bs j ≠ 0) ∧ w = wx
/-- A true or false that stands in a slot, said by a name. -/
def IsB (b : Bool) (v : Value) : Prop := v = .bool b

theorem sameBytes_yes (a a' : Option Addr) (cap cap' : Nat) (xs : List Int) (w : World) (hx : Sl .u8 w a cap xs) (hy : Sl .u8 w a' cap' xs) : Calls Try.prog 42 #[.slice a xs.length cap, .slice a' xs.length cap'] w (BoolPost true w) := by
  have h := sameBytes_c a a' cap cap' xs xs w hx hy
  rwa [decide_eq_true rfl] at h
theorem Cmp_eq (a a' : Option Addr) (cap cap' : Nat) (zs ys : List Int) (w : World) (hc : Sl .u32 w a cap zs) (hc' : Sl .u32 w a' cap' ys) (ux : U32 zs) (uy : U32 ys) (h : val zs = val ys) :
    Calls Try.prog 27 #[.slice a zs.length cap, .slice a' ys.length cap'] w (CmpPost 0 w) := by
  have h2 := Cmp_c a a' cap cap' zs ys w hc hc' ux uy
  rwa [cmpI_eq h] at h2
theorem FromBytes_v (a : Option Addr) (cap n : Nat) (bs : List Int) (w : World) (hc : Sl .u8 w a cap bs) (ub : U8 bs) (hl : bs.length ≤ 140737488355328) (hv : bval bs = n) : Calls Try.prog 33 #[.slice a bs.length cap] w (NatPost n w) := by
  have h := FromBytes_c a cap bs w hc ub hl
  rwa [hv] at h
theorem Shl_k (a : Option Addr) (cap k : Nat) (zs : List Int) (w : World) (hc : Sl .u32 w a cap zs) (ux : U32 zs) (hl : zs.length ≤ 35184372088000) (hk : k ≤ 131072) : Calls Try.prog 40 #[.slice a zs.length cap, .int .i64 (k : Int)] w (NatPost (val zs * 2 ^ k) w) := by
  have h := Shl_c a cap zs (k : Int) w hc ux hl ⟨by omega, by omega⟩
  rwa [show shK (k : Int) = k by unfold shK; omega] at h
theorem Shr_k (a : Option Addr) (cap k : Nat) (zs : List Int) (w : World) (hc : Sl .u32 w a cap zs) (ux : U32 zs) (hl : zs.length ≤ 35184372088000) (hk : k ≤ 9223372036854775807) : Calls Try.prog 41 #[.slice a zs.length cap, .int .i64 (k : Int)] w (NatPost (val zs / 2 ^ k) w) := by
  have h := Shr_c a cap zs (k : Int) w hc ux hl ⟨by omega, by omega⟩
  rwa [show shD (k : Int) = k by unfold shD; omega] at h
theorem bit_top {n : Nat} (h : n ≠ 0) : bitB n ((bl n - 1 : Nat) : Int) = true := by
  have h1 := bl_le h
  have h2 := lt_bl n
  have h3 := bl_pos h
  refine decide_eq_true ⟨by omega, ?_⟩
  rw [Int.toNat_natCast]
  have e : 2 ^ bl n = 2 ^ (bl n - 1) * 2 := by rw [← Nat.pow_succ]; congr 1; omega
  have : n / 2 ^ (bl n - 1) = 1 := by
    rw [Nat.div_eq_iff (Nat.pow_pos (by decide))]
    omega
  rw [this]
theorem bit_off (n : Nat) : bitB n ((bl n : Nat) : Int) = false := by
  refine decide_eq_false fun h => ?_
  rw [Int.toNat_natCast, Nat.div_eq_of_lt (lt_bl n)] at h
  omega
theorem bit_neg {n : Nat} {i : Int} (h : i < 0) : bitB n i = false := decide_eq_false fun h2 => by omega
theorem bit_shr (n i : Nat) : bitB n (i : Int) = decide (n / 2 ^ i % 2 = 1) := by
  unfold bitB
  rw [Int.toNat_natCast]
  refine decide_eq_decide.2 ⟨fun h => h.2, fun h => ⟨by omega, h⟩⟩
theorem val_odd {zs : List Int} (u : U32 zs) (h : 0 < zs.length) : val zs % 2 = lb zs 0 % 2 := by
  have e := val_drop zs 0 h
  rw [List.drop_zero] at e
  rw [e, R]
  omega
def clampB (k : Int) : Bool := decide (k < 0 ∨ 4096 < k)
/-- A slot that holds a count of bits up to 4096. -/
def Kval (v : Value) : Prop := ∃ k : Nat, k ≤ 4096 ∧ v = .int .i64 (k : Int)

set_option maxHeartbeats 16000000 in
set_option maxRecDepth 100000 in
theorem NatDigits_c (a a' : Option Addr) (cap cap' : Nat) (bs xs : List Int) (size k i : Int) (w : World) (gb : Sl .u8 w a cap bs) (hx : Sl .u32 w a' cap' xs) (ub : U8 bs) (ux : U32 xs)
    (hsize : -9223372036854775808 ≤ size ∧ size ≤ 9223372036854775807) (hk : -9223372036854775808 ≤ k ∧ k ≤ 9223372036854775807) (hi : -9223372036854775808 ≤ i ∧ i ≤ 9223372036854775807) (hl : bs.length + xs.length ≤ 1048576) :
    Calls Try.prog 10 #[.slice a bs.length cap, .slice a' xs.length cap', .int .i64 size, .int .i64 k, .int .i64 i] w (TruePost w) := by
  have hcb := gb.le
  have hmb := gb.max
  have hbl : bl (val xs) ≤ 33554432 := by
    have h1 := (bl_le_iff (val xs) (32 * xs.length)).2 (by rw [← Rpow_two]; exact val_lt ux)
    omega
  have mx : Lim 1048576 (val xs) := .of_list ux (by omega)
  go_enter Try.func10, Try.ntmps10
  have hB := Below.refl w.heap.size w
  go_wp2_with fail
  refine (alive_c _).mono ?_; rintro e w1 ⟨rfl, hb⟩
  replace gb := gb.below hb
  replace hx := hx.below hb
  replace hB := hB.trans (hb.mono hB.size)
  clear hb
  go_wp2_with fail
  refine (FromBytes_c _ _ _ _ gb ub (by omega)).mono ?_; rintro e w2 ⟨v1, rfl, hn, hb⟩
  replace gb := gb.below hb
  replace hx := hx.below hb
  replace hB := hB.trans (hb.mono hB.size)
  clear hb
  obtain ⟨adF, cpF, zF, rfl, sF, nF, uF, hv⟩ := hn.sl
  have vF := Lib.hid hv
  clear hv hn
  have lF : zF.length ≤ 1048576 := Nat.le_trans (canon_bytes_len nF uF ub vF.out) (by omega)
  go_upto_block 0 with fail
  go_cut [12] (fun t wx => LeadRel bs w2 t wx)
  case first => as_aux_lemma =>
    go_wp2_with fail
    go_loop [12] (fun t => ∃ j : Nat, j ≤ bs.length ∧ t = .int .i64 (j : Int) ∧ (∀ m, m < j → nth bs m = 0)) (fun t => bs.length - (intOf t).toNat)
    case atStart => exact ⟨0, by omega, rfl, fun m hm => by omega⟩
    case round =>
      obtain ⟨j, hj, rfl, hall⟩ := hrel
      have HA := Lib.hid hall
      clear hall
      by_cases hlt : j < bs.length
      · obtain ⟨b, off, rfl, hcc⟩ := gb.cells (by omega)
        have c1 := hcc j hlt
        have hd1 : decide ((j : Int) < (bs.length : Int)) = true := decide_eq_true (by omega)
        clear hcc
        by_cases h0 : nth bs j = 0
        · have g0 : (nth bs j == 0) = true := by simpa using h0
          have H0 := Lib.hid h0
          clear h0
          go_wp2_with fail
          go_round
          case rel => exact ⟨j + 1, by omega, by go_num, (fun m hm => by
            by_cases h : m = j
            · rw [h]; exact H0.out
            · exact HA.out m (by omega))⟩
          case measure => simp [intOf]; omega
        · have g0 : (nth bs j == 0) = false := by simpa using h0
          have H0 := Lib.hid h0
          clear h0
          go_wp2_with fail
          go_meet
          exact ⟨j, hj, rfl, HA.out, .inr H0.out, rfl⟩
      · have hd1 : decide ((j : Int) < (bs.length : Int)) = false := decide_eq_false (by omega)
        have hd2 : ¬ (j : Int) < (bs.length : Int) := by omega
        go_wp2_with fail
        go_meet
        exact ⟨j, hj, rfl, HA.out, .inl (by omega), rfl⟩
  case rest => as_aux_lemma =>
    obtain ⟨j, hj, rfl, hall, hend, rfl⟩ := hcut
    obtain ⟨ab, sD, rb⟩ := gb.from (P := Try.prog) (T := 22) Try.underlying22 size8n j hj
    have eD := beN_lead ub hj hall hend
    obtain ⟨D, hD⟩ : ∃ D, D = bs.drop j := ⟨_, rfl⟩
    have lD : D.length = bs.length - j := by rw [hD, List.length_drop]
    rw [← hD] at eD sD
    rw [← lD] at rb
    obtain ⟨zC, hzC⟩ : ∃ z, z = beN (val xs) (blen (val xs)) := ⟨_, rfl⟩
    have uC : U8 zC := by rw [hzC]; exact beN_u8 _ _
    have bC : Hid (bval zC = val xs) := Lib.hid (by rw [hzC]; exact bval_bytes _)
    obtain ⟨m, hm⟩ : ∃ m, m = blen (val xs) := ⟨_, rfl⟩
    have lC : zC.length = m := by rw [hzC, hm, beN_len]
    have hm4 : m ≤ 4194305 := by rw [hm]; unfold blen; omega
    have HM := Lib.hid hm
    have bcF : ∀ W, Below w2.heap.size w2 W → Calls Try.prog 34 #[.slice adF zF.length cpF] W (NBytesPost D W) := fun W hw => by
      have h := Bytes_c adF cpF zF W (sF.below hw) uF (by omega)
      rwa [vF.out, eD] at h
    have bcX : ∀ W, Sl .u32 W a' cap' xs → Calls Try.prog 34 #[.slice a' xs.length cap'] W (NBytesPost zC W) := fun W hw => by
      have h := Bytes_c a' cap' xs W hw ux (by omega)
      rwa [← hzC] at h
    have lCh := Lib.hid lC
    have lDh := Lib.hid lD
    clear hall hend eD hD lD hzC hm lC
    have hjc : (j : Int) ≤ (cap : Int) := by omega
    have hjb : (j : Int) ≤ (bs.length : Int) := by omega
    have hbc : (bs.length : Int) ≤ (cap : Int) := by omega
    go_upto_region 7 with fail
    go_region_held3 (fun w' => True) (trivial)
      (first
        | (go_at_call_of 34 (Value.slice adF zF.length cpF); refine (bcF _ (Below.refl _ _).drew).mono ?_; rintro e w3 ⟨v1, rfl, nB, hb3⟩; obtain ⟨aB, cB, rfl, sB⟩ := nB.sl; (have H3 : Below w2.heap.size w2 w3 := (Below.refl w2.heap.size w2).drew.trans hb3))
        | (go_at_call 42; refine (sameBytes_yes aB ab cB (cap - j) D _ sB (sD.below H3)).mono ?_; rintro e w4 ⟨rfl, hb4⟩; (have H4 := H3.trans (hb4.b.mono H3.size)))
        | (go_at_call_of 34 (Value.slice a' xs.length cap'); refine (bcX _ (hx.below H4)).mono ?_; rintro e w5 ⟨v2, rfl, nC, hb5⟩; obtain ⟨aC, cC, rfl, sC⟩ := nC.sl; (have H5 := H4.trans (hb5.mono H4.size)))
        | (go_at_call 33; refine (FromBytes_v aC cC _ zC _ sC uC (by have := lCh.out; omega) bC.out).mono ?_; rintro e w6 ⟨v3, rfl, nG, hb6⟩; obtain ⟨adG, cpG, zG, rfl, sG, canG, uG, vG⟩ := nG.sl; (have VG := Lib.hid vG); clear vG; (have H6 := H5.trans (hb6.mono H5.size)))
        | (go_at_call 27; refine (Cmp_eq adG a' cpG cap' zG xs _ sG (hx.below H6) uG ux VG.out).mono ?_; rintro e w7 ⟨rfl, hb7⟩; (have hb := H6.trans (hb7.b.mono H6.size))))
    all_goals (clear hb3 hb4 hb5 hb6 hb7 nB nC nG rb bcF sB sC sG sD sF)
    replace gb := gb.below hb
    replace hx := hx.below hb
    replace hB := hB.trans (hb.mono hB.size)
    clear hb H3 H4 H5 H6 gb
    go_wp2_with fail
    refine (bcX _ hx).mono ?_; rintro e w8 ⟨v1, rfl, hn, hb⟩
    replace hx := hx.below hb
    replace hB := hB.trans (hb.mono hB.size)
    clear hb
    obtain ⟨adL, cpL, rfl, sL⟩ := hn.sl
    clear hn sL
    rw [lCh.out]
    obtain ⟨zX, hzX⟩ : ∃ z, z = fixL (val xs) size := ⟨_, rfl⟩
    obtain ⟨fb, hfb⟩ : ∃ b, b = fitB (val xs) size := ⟨_, rfl⟩
    have HX := Lib.hid hzX
    have HF := Lib.hid hfb
    have fx : Calls Try.prog 35 #[.slice a' xs.length cap', .int .i64 size] w8 (fun e w' => ∃ v, e = .returned (.tuple #[v, .bool fb]) ∧ New w8.heap.size .u8 5 w' v zX ∧ Below w8.heap.size w8 w') := by
      have h := Fixed_c a' cap' xs size w8 hx ux (by omega) hsize
      unfold FixedPost at h
      rwa [← hzX, ← hfb] at h
    clear hzX hfb
    go_wp2_with fail
    refine (fx).mono ?_; rintro e w9 ⟨v1, rfl, hn, hb⟩
    replace hx := hx.below hb
    replace hB := hB.trans (hb.mono hB.size)
    clear hb
    obtain ⟨adX, cpX, rfl, sX⟩ := hn.sl
    clear hn fx
    obtain ⟨lx, hlx⟩ : ∃ n, n = zX.length := ⟨_, rfl⟩
    have HLX := Lib.hid hlx
    rw [← hlx]
    clear hlx
    go_upto_region 11 with fail
    go_cut [103] (fun c wx => IsB false c ∧ Below w9.heap.size w9 wx)
    case first => as_aux_lemma =>
      by_cases hA : (m : Int) ≤ size
      · have d1 : decide ((m : Int) ≤ size) = true := decide_eq_true hA
        by_cases hA2 : size ≤ 16384
        · have hfit : fitB (val xs) size = true := decide_eq_true ⟨by omega, hA2, by rw [← HM.out]; exact hA⟩
          obtain rfl : fb = true := by rw [HF.out, hfit]
          obtain ⟨s, rfl⟩ := Int.eq_ofNat_of_zero_le (show 0 ≤ size by omega)
          have hX : zX = beN (val xs) s := by rw [HX.out, fixL, if_pos hfit, Int.toNat_natCast]
          obtain rfl : lx = s := by rw [HLX.out, hX, beN_len]
          have lX : zX.length = lx := by rw [hX, beN_len]
          have uX : U8 zX := by rw [hX]; exact beN_u8 _ _
          have bX : Hid (bval zX = val xs) := Lib.hid (by rw [hX]; exact bval_beN _ _ (fits_lt (by rw [← HM.out]; omega)))
          have fbX := fun W (hs : Sl .u8 W adX cpX zX) => FromBytes_v adX cpX _ zX W hs uX (by omega) bX.out
          rw [lX] at fbX
          have d2 : decide ((lx : Int) ≤ 16384) = true := decide_eq_true hA2
          have d3 : decide ((0 : Int) ≤ (lx : Int)) = true := decide_eq_true (by omega)
          have d4 : ((lx : Int) != lx) = false := by simp
          clear hX lX hfit HF HX bcX
          go_wp2_with fail
          refine (fbX _ sX).mono ?_; rintro e w10 ⟨v1, rfl, nH, hb⟩
          obtain ⟨adH, cpH, zH, rfl, sH, canH, uH, vH⟩ := nH.sl
          have VH := Lib.hid vH
          have hx2 := hx.below hb
          clear vH nH fbX
          go_wp2_with fail
          refine (Cmp_eq adH a' cpH cap' zH xs _ sH hx2 uH ux VH.out).mono ?_; rintro e w11 ⟨rfl, hb2⟩
          have hb3 := hb.trans (hb2.b.mono hb.size)
          clear hb hb2
          go_wp2_with fail
          go_meet
          exact ⟨rfl, hb3⟩
        · have hfit : fitB (val xs) size = false := decide_eq_false fun h => hA2 h.2.1
          obtain rfl : fb = false := by rw [HF.out, hfit]
          obtain rfl : zX = [] := by rw [HX.out, fixL, if_neg (by rw [hfit]; simp)]
          obtain rfl : lx = 0 := HLX.out
          have d2 : decide (size ≤ 16384) = false := decide_eq_false hA2
          clear hfit HF HX bcX
          go_wp2_with fail
          go_meet
          exact ⟨rfl, .refl _ _⟩
      · have d1 : decide ((m : Int) ≤ size) = false := decide_eq_false hA
        have hfit : fitB (val xs) size = false := decide_eq_false fun h => hA (by rw [HM.out]; exact h.2.2)
        obtain rfl : fb = false := by rw [HF.out, hfit]
        obtain rfl : zX = [] := by rw [HX.out, fixL, if_neg (by rw [hfit]; simp)]
        obtain rfl : lx = 0 := HLX.out
        clear hfit HF HX bcX
        go_wp2_with fail
        go_meet
        exact ⟨rfl, .refl _ _⟩
    case rest => as_aux_lemma =>
      obtain ⟨rfl, hb⟩ := hcut
      obtain ⟨w10, hw10⟩ : ∃ x, x = wc := ⟨_, rfl⟩
      subst hw10
      replace hx := hx.below hb
      replace hB := hB.trans (hb.mono hB.size)
      clear hb sX bcX HX HF
      go_upto_region 13 with fail
      go_cut [109] (fun c wx => IsB (clampB k) c ∧ w10 = wx)
      case first => as_aux_lemma =>
        by_cases h1 : k < 0
        · have d1 : decide (k < 0) = true := decide_eq_true h1
          have hk2 : Hid (clampB k = true) := Lib.hid (decide_eq_true (.inl h1))
          go_wp2_with fail
          go_meet
          exact ⟨by rw [hk2.out]; rfl, rfl⟩
        · have d1 : decide (k < 0) = false := decide_eq_false h1
          by_cases h2 : 4096 < k
          · have d2 : decide (4096 < k) = true := decide_eq_true h2
            have hk2 : Hid (clampB k = true) := Lib.hid (decide_eq_true (.inr h2))
            go_wp2_with fail
            go_meet
            exact ⟨by rw [hk2.out]; rfl, rfl⟩
          · have d2 : decide (4096 < k) = false := decide_eq_false h2
            have hk2 : Hid (clampB k = false) := Lib.hid (decide_eq_false (by omega))
            go_wp2_with fail
            go_meet
            exact ⟨by rw [hk2.out]; rfl, rfl⟩
      case rest => as_aux_lemma =>
        obtain ⟨rfl, rfl⟩ := hcut
        go_upto_if 109 with fail
        go_cut [3] (fun v wx => Kval v ∧ w10 = wx)
        case first => as_aux_lemma =>
          cases hkb : clampB k
          · obtain ⟨kk, rfl⟩ := Int.eq_ofNat_of_zero_le (show 0 ≤ k by have := of_decide_eq_false hkb; omega)
            have hkk : kk ≤ 4096 := by have := of_decide_eq_false hkb; omega
            go_wp2_with fail
            go_meet
            exact ⟨⟨kk, hkk, rfl⟩, rfl⟩
          · go_wp2_with fail
            go_meet
            exact ⟨⟨0, by omega, rfl⟩, rfl⟩
        case rest => as_aux_lemma =>
          obtain ⟨⟨kk, hkk, rfl⟩, rfl⟩ := hcut
          obtain ⟨p, hp⟩ : ∃ p, p = 2 ^ kk := ⟨_, rfl⟩
          have hp0 : 0 < p := by rw [hp]; exact Nat.pow_pos (by decide)
          have mp : Lim 129 p := by rw [hp]; exact pow_lim (by omega)
          have HP := Lib.hid hp
          have shl := fun W (hs : Sl .u32 W a' cap' xs) => Shl_k a' cap' kk xs W hs ux (by omega) (by omega)
          have shr := fun W (hs : Sl .u32 W a' cap' xs) => Shr_k a' cap' kk xs W hs ux (by omega) (by omega)
          have pw := fun W => pow_c kk W (by omega)
          rw [← hp] at shl shr pw
          clear hp
          go_wp2_with fail
          refine (shl _ hx).mono ?_; rintro e w11 ⟨v1, rfl, hn, hb⟩
          replace hx := hx.below hb
          replace hB := hB.trans (hb.mono hB.size)
          clear hb
          obtain ⟨adU, cpU, zU, rfl, sU, nU, uU, hv⟩ := hn.sl
          have vU := Lib.hid hv
          clear hv hn
          have mU := Lim.eq (mx.mul mp) vU.out
          have lU := mU.len nU uU
          go_wp2_with fail
          refine (shr _ hx).mono ?_; rintro e w12 ⟨v1, rfl, hn, hb⟩
          replace hx := hx.below hb
          replace sU := sU.below hb
          replace hB := hB.trans (hb.mono hB.size)
          clear hb
          obtain ⟨adD, cpD, zD, rfl, sD, nD, uD, hv⟩ := hn.sl
          have vD := Lib.hid hv
          clear hv hn
          have mD := Lim.eq (mx.le (Nat.div_le_self _ _)) vD.out
          have lD := mD.len nD uD
          go_wp2_with fail
          refine (pw _).mono ?_; rintro e w13 ⟨v1, rfl, hn, hb⟩
          replace hx := hx.below hb
          replace sU := sU.below hb
          replace sD := sD.below hb
          replace hB := hB.trans (hb.mono hB.size)
          clear hb
          obtain ⟨adP, cpP, zP, rfl, sP, nP, uP, hv⟩ := hn.sl
          have vP := Lib.hid hv
          clear hv hn
          have mP := Lim.eq mp vP.out
          have lP := mP.len nP uP
          go_wp2_with fail
          refine (DivMod_c _ _ _ _ _ _ _ hx sP ux uP (by omega) (by omega)).mono ?_; rintro e w14 hq
          obtain ⟨adQ, cpQ, zQ, adr, cpr, zr, rfl, sQ, nQ, uQ, sr, nr, ur, hvp, hvz, hb⟩ := hq.sl
          replace hx := hx.below hb
          replace sU := sU.below hb
          replace sD := sD.below hb
          replace sP := sP.below hb
          replace hB := hB.trans (hb.mono hB.size)
          clear hb hq
          obtain ⟨hv, hv'⟩ := hvp (by rw [vP.out]; exact hp0)
          rw [if_neg (show ¬ val zP = 0 by rw [vP.out]; omega)]
          rw [vP.out] at hv hv'
          have vQ := Lib.hid hv
          have vr := Lib.hid hv'
          have mQ := Lim.eq (mx.le (Nat.div_le_self _ _)) hv
          have mr := Lim.eq (mx.le (Nat.mod_le _ _)) hv'
          have lQ := mQ.len nQ uQ
          have lr := mr.len nr ur
          clear hv hv' hvp hvz sP
          have shU : ∀ W, Sl .u32 W adU cpU zU → Calls Try.prog 41 #[.slice adU zU.length cpU, .int .i64 (kk : Int)] W (NatPost (val xs) W) := fun W hs => by
            have h := Shr_k adU cpU kk zU W hs uU (by omega) (by omega)
            rwa [vU.out, ← HP.out, Nat.mul_div_cancel _ hp0] at h
          go_wp2_with fail
          refine (shU _ sU).mono ?_; rintro e w15 ⟨v1, rfl, hn, hb⟩
          replace hx := hx.below hb
          replace sU := sU.below hb
          replace sD := sD.below hb
          replace sQ := sQ.below hb
          replace sr := sr.below hb
          replace hB := hB.trans (hb.mono hB.size)
          clear hb
          obtain ⟨adB, cpB, zB, rfl, sB, nB, uB, hv⟩ := hn.sl
          have vB := Lib.hid hv
          clear hv hn
          clear shU
          go_wp2_with fail
          refine (pw _).mono ?_; rintro e w16 ⟨v1, rfl, hn, hb⟩
          replace hx := hx.below hb
          replace sU := sU.below hb
          replace sD := sD.below hb
          replace sQ := sQ.below hb
          replace sr := sr.below hb
          replace sB := sB.below hb
          replace hB := hB.trans (hb.mono hB.size)
          clear hb
          obtain ⟨adP, cpP, zP, rfl, sP, nP, uP, hv⟩ := hn.sl
          have vP := Lib.hid hv
          clear hv hn
          have mP := Lim.eq mp vP.out
          have lP := mP.len nP uP
          go_wp2_with fail
          refine (Mul_c _ _ _ _ _ _ _ hx sP ux uP (by omega) (by omega)).mono ?_; rintro e w17 ⟨v1, rfl, hn, hb⟩
          replace hx := hx.below hb
          replace sU := sU.below hb
          replace sD := sD.below hb
          replace sQ := sQ.below hb
          replace sr := sr.below hb
          replace sB := sB.below hb
          replace sP := sP.below hb
          replace hB := hB.trans (hb.mono hB.size)
          clear hb
          obtain ⟨adM, cpM, zM, rfl, sM, nM, uM, hv⟩ := hn.sl
          have vM := Lib.hid hv
          clear hv hn
          clear sP
          obtain rfl : zU = zM := nU.ext nM uU uM (by rw [vU.out, vM.out, vP.out])
          go_wp2_with fail
          refine (same_c _ _ _ _ _ _ sU sM nU).mono ?_; rintro e w18 ⟨rfl, hb⟩
          replace hx := hx.below hb.b
          replace sU := sU.below hb.b
          replace sD := sD.below hb.b
          replace sQ := sQ.below hb.b
          replace sr := sr.below hb.b
          replace sB := sB.below hb.b
          replace sM := sM.below hb.b
          replace hB := hB.trans (hb.b.mono hB.size)
          clear hb
          clear sM
          obtain rfl : zD = zQ := nD.ext nQ uD uQ (by rw [vD.out, vQ.out])
          go_wp2_with fail
          refine (same_c _ _ _ _ _ _ sD sQ nD).mono ?_; rintro e w19 ⟨rfl, hb⟩
          replace hx := hx.below hb.b
          replace sU := sU.below hb.b
          replace sD := sD.below hb.b
          replace sQ := sQ.below hb.b
          replace sr := sr.below hb.b
          replace sB := sB.below hb.b
          replace hB := hB.trans (hb.b.mono hB.size)
          clear hb
          clear sU sD sQ
          go_wp2_with fail
          refine (Cmp_eq _ _ _ _ _ _ _ sB hx uB ux vB.out).mono ?_; rintro e w20 ⟨rfl, hb⟩
          replace hx := hx.below hb.b
          replace sr := sr.below hb.b
          replace sB := sB.below hb.b
          replace hB := hB.trans (hb.b.mono hB.size)
          clear hb
          clear sB
          obtain ⟨br, hbr⟩ : ∃ n, n = bl (val zr) := ⟨_, rfl⟩
          have brk : br ≤ kk := by rw [hbr, vr.out, HP.out]; exact mod_bl _ _
          have d1 : decide ((kk : Int) < (br : Int)) = false := decide_eq_false (by omega)
          have HBR := Lib.hid hbr
          clear hbr
          go_wp2_with fail
          refine (Bits_c _ _ _ _ sr ur (by omega)).mono ?_; rintro e w21 ⟨rfl, rfl⟩
          rw [← HBR.out]
          clear sr
          obtain ⟨bx, hbx⟩ : ∃ n, n = bl (val xs) := ⟨_, rfl⟩
          rw [← hbx] at hbl
          have HBX := Lib.hid hbx
          clear hbx
          have hmb : m = (bx + 7) / 8 := by rw [HM.out, HBX.out]; rfl
          go_wp2_with fail
          refine (Bits_c _ _ _ _ hx ux (by omega)).mono ?_; rintro e w21 ⟨rfl, rfl⟩
          rw [← HBX.out]
          clear d1 brk hp0
          go_upto_region 22 with fail
          go_cut [180] (fun c wx => IsB false c ∧ Below w20.heap.size w20 wx)
          case first => as_aux_lemma =>
            by_cases h0 : bx = 0
            · subst h0
              obtain rfl : m = 0 := by omega
              clear hmb
              go_wp2_with fail
              go_meet
              exact ⟨rfl, .refl _ _⟩
            · have e0 : ((bx : Int) == 0) = false := by simp; omega
              have e1 : decide ((0 : Int) < (bx : Int)) = true := decide_eq_true (by omega)
              have e2 : IntKind.i64.wrap ((bx : Int) - 1) = ((bx - 1 : Nat) : Int) := by rw [IntKind.wrap_i64]; omega
              have e3 : (bx : Int) - 1 = ((bx - 1 : Nat) : Int) := by omega
              have n0 : val xs ≠ 0 := fun h => h0 (by rw [HBX.out, h]; rfl)
              have b1 := Bit_c a' cap' xs ((bx - 1 : Nat) : Int) w20 hx ux ⟨by omega, by omega⟩
              have b2 := fun W (hs : Sl .u32 W a' cap' xs) => Bit_c a' cap' xs (bx : Int) W hs ux ⟨by omega, by omega⟩
              have t1 : bitB (val xs) ((bx - 1 : Nat) : Int) = true := by rw [HBX.out]; exact bit_top n0
              have t2 : bitB (val xs) (bx : Int) = false := by rw [HBX.out]; exact bit_off _
              rw [t1] at b1
              rw [t2] at b2
              clear t1 t2 hmb n0
              go_wp2_with fail
              first | (rw [e3]; refine b1.mono ?_) | refine b1.mono ?_
              rintro e wa ⟨rfl, hba⟩
              have hx2 := hx.below hba.b
              go_wp2_with fail
              refine (b2 _ hx2).mono ?_; rintro e wb ⟨rfl, hbb⟩
              have hb3 := hba.b.trans (hbb.b.mono hba.b.size)
              clear hba hbb
              go_wp2_with fail
              go_meet
              exact ⟨rfl, hb3⟩
          case rest => as_aux_lemma =>
            obtain ⟨rfl, hb⟩ := hcut
            obtain ⟨w21, hw10⟩ : ∃ x, x = wc := ⟨_, rfl⟩
            subst hw10
            replace hx := hx.below hb
            replace hB := hB.trans (hb.mono hB.size)
            clear hb hmb
            go_upto_region 24 with fail
            go_cut [201] (fun c wx => IsB false c ∧ Below w21.heap.size w21 wx)
            case first => as_aux_lemma =>
              by_cases h0 : bx = 0
              · subst h0
                go_wp2_with fail
                go_meet
                exact ⟨rfl, .refl _ _⟩
              · have e1 : decide ((0 : Int) < (bx : Int)) = true := decide_eq_true (by omega)
                by_cases h1 : bx ≤ 131072
                · have e4 : decide ((bx : Int) ≤ 131072) = true := decide_eq_true (by omega)
                  have e2 : IntKind.i64.wrap ((bx : Int) - 1) = ((bx - 1 : Nat) : Int) := by rw [IntKind.wrap_i64]; omega
                  have e3 : (bx : Int) - 1 = ((bx - 1 : Nat) : Int) := by omega
                  have n0 : val xs ≠ 0 := fun h => h0 (by rw [HBX.out, h]; rfl)
                  have g1 : Hid (val xs < 2 ^ bx) := Lib.hid (by rw [HBX.out]; exact lt_bl _)
                  have g2 : Hid (2 ^ (bx - 1) ≤ val xs) := Lib.hid (by rw [HBX.out]; exact bl_le n0)
                  have p1 := pow_c bx w21 h1
                  have p2 := fun W => pow_c (bx - 1) W (by omega)
                  clear n0
                  go_wp2_with fail
                  refine p1.mono ?_; rintro e wa ⟨v1, rfl, hn, hba⟩
                  obtain ⟨ad1, cp1, z1, rfl, s1, n1, u1, hv⟩ := hn.sl
                  have v1_ := Lib.hid hv
                  have hx2 := hx.below hba
                  clear hv hn p1
                  go_wp2_with fail
                  refine (Cmp_c _ _ _ _ _ _ _ s1 hx2 u1 ux).mono ?_; rintro e wb ⟨rfl, hbb⟩
                  rw [cmpI_gt (show val xs < val z1 by rw [v1_.out]; exact g1.out)]
                  have hb2 := hba.trans (hbb.b.mono hba.size)
                  have hx3 := hx2.below hbb.b
                  clear hba hbb hx2
                  go_wp2_with fail
                  first | (rw [e3]; refine (p2 _).mono ?_) | refine (p2 _).mono ?_
                  rintro e wd ⟨v1, rfl, hn, hbd⟩
                  obtain ⟨ad2, cp2, z2, rfl, s2, n2, u2, hv⟩ := hn.sl
                  have v2_ := Lib.hid hv
                  have hb3 := hb2.trans (hbd.mono hb2.size)
                  have hx4 := hx3.below hbd
                  clear hv hn hb2 hbd hx3 p2
                  have hle : cmpI (val z2) (val xs) ≤ 0 := by
                    have h := g2.out
                    unfold cmpI
                    rw [v2_.out]
                    split
                    · omega
                    · rw [if_neg (by omega)]; omega
                  have hcm := Cmp_c _ _ _ _ _ _ _ s2 hx4 u2 ux
                  obtain ⟨cc, hcc⟩ : ∃ c, c = cmpI (val z2) (val xs) := ⟨_, rfl⟩
                  rw [← hcc] at hle hcm
                  have hdc : decide ((0 : Int) < cc) = false := decide_eq_false (by omega)
                  clear hcc
                  go_wp2_with fail
                  refine hcm.mono ?_; rintro e we ⟨rfl, hbe⟩
                  have hb4 := hb3.trans (hbe.b.mono hb3.size)
                  clear hb3 hbe hcm
                  go_wp2_with fail
                  go_meet
                  exact ⟨rfl, hb4⟩
                · have e4 : decide ((bx : Int) ≤ 131072) = false := decide_eq_false (by omega)
                  go_wp2_with fail
                  go_meet
                  exact ⟨rfl, .refl _ _⟩
            case rest => as_aux_lemma =>
              obtain ⟨rfl, hb⟩ := hcut
              obtain ⟨w22, hw10⟩ : ∃ x, x = wc := ⟨_, rfl⟩
              subst hw10
              replace hx := hx.below hb
              replace hB := hB.trans (hb.mono hB.size)
              clear hb HBX hbl
              obtain ⟨hi1, hi2⟩ := hi
              by_cases hi0 : i < 0
              · have d1 : decide (i < 0) = true := decide_eq_true hi0
                have b1 := Bit_c a' cap' xs i w22 hx ux ⟨hi1, hi2⟩
                rw [bit_neg hi0] at b1
                go_wp2_with fail
                refine b1.mono ?_; rintro e wa ⟨rfl, hba⟩
                go_wp2_with fail
                go_ret
                exact ⟨rfl, hB.trans (hba.b.mono hB.size)⟩
              · obtain ⟨ii, rfl⟩ := Int.eq_ofNat_of_zero_le (show 0 ≤ i by omega)
                have d1 : decide ((ii : Int) < 0) = false := decide_eq_false (by omega)
                have b1 := fun W (hs : Sl .u32 W a' cap' xs) => Bit_c a' cap' xs (ii : Int) W hs ux ⟨hi1, hi2⟩
                have sh := Shr_k a' cap' ii xs w22 hx ux (by omega) (by omega)
                rw [bit_shr] at b1
                obtain ⟨q, hq⟩ : ∃ q, q = val xs / 2 ^ ii := ⟨_, rfl⟩
                rw [← hq] at sh b1
                clear hq hi0
                go_wp2_with fail
                refine sh.mono ?_; rintro e wa ⟨v1, rfl, hn, hba⟩
                obtain ⟨adS, cpS, zS, rfl, sS, nS, uS, hv⟩ := hn.sl
                have hB2 := hB.trans (hba.mono hB.size)
                have hx2 := hx.below hba
                clear hn hba sh
                by_cases hz : zS = []
                · subst hz
                  obtain rfl : q = 0 := hv.symm
                  have b2 := b1 _ hx2
                  rw [show decide (0 % 2 = 1) = false from rfl] at b2
                  clear b1 hv
                  go_wp2_with fail
                  refine b2.mono ?_; rintro e wb ⟨rfl, hbb⟩
                  go_wp2_with fail
                  go_ret
                  exact ⟨rfl, hB2.trans (hbb.b.mono hB2.size)⟩
                · have hpos : 0 < zS.length := by
                    rcases Nat.eq_zero_or_pos zS.length with h | h
                    · exact absurd (List.eq_nil_of_length_eq_zero h) hz
                    · exact h
                  obtain ⟨b, off, rfl, hcc⟩ := sS.cells hpos
                  have c0 := hcc 0 hpos
                  rw [Nat.add_zero, ← lb_cast uS] at c0
                  have hx0 := lb_lt uS 0
                  have ho := val_odd uS hpos
                  rw [hv] at ho
                  obtain ⟨x, hx_⟩ : ∃ x, x = lb zS 0 := ⟨_, rfl⟩
                  rw [← hx_] at c0 hx0 ho
                  have b2 := b1 _ hx2
                  rw [ho] at b2
                  obtain ⟨ob, hob⟩ : ∃ ob, ob = decide (x % 2 = 1) := ⟨_, rfl⟩
                  rw [← hob] at b2
                  have e1 : (((x : Int) % 2) == 1) = ob := by rw [hob, Bool.eq_iff_iff]; simp; omega
                  have e2 : (ob == ob) = true := by simp
                  have d2 : decide ((0 : Int) < (zS.length : Int)) = true := decide_eq_true (by omega)
                  unfold R at hx0
                  clear b1 hv ho hob hx_ hcc hz
                  go_wp2_with fail
                  refine b2.mono ?_; rintro e wb ⟨rfl, hbb⟩
                  go_wp2_with fail
                  go_ret
                  exact ⟨rfl, hB2.trans (hbb.b.mono hB2.size)⟩
end Go.Proofs.Ytadldaidbcdaeaa
