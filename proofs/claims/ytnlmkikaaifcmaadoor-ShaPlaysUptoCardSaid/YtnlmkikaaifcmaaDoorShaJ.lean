/- signetref4: short by its contract. -/
import Derived.Test.YtnlmkikaaifcmaaDoorShaI
import Derived.Test.YtnlmkikaaifcmaaDoorShaP
import Derived.Deep.RegionHeld3
set_option linter.unusedVariables false
set_option linter.unusedSimpArgs false
namespace Go.Sg
open Go.RowKit
theorem New.drew {B : Nat} {k : IntKind} {E : TypeId} {w : World} {v : Value} {xs : List Int} (h : New B k E w v xs) : New B k E w.drew v xs :=
  h.kept (row := none) ⟨rfl, rfl, rfl, Nat.le_refl _, fun _ _ _ => rfl⟩ (by cases hv : v.ownBlock <;> simp)
theorem and255 (y : Nat) (h : y < 4294967296) : IntKind.u8.wrap (bits .and .u32 (y : Int) 255) = ((y % 256 : Nat) : Int) := by
  rw [show bits .and .u32 (y : Int) 255 = ((y &&& 255 : Nat) : Int) from u32_and_nat _ 255 h (by omega), Nat.and_two_pow_sub_one_eq_mod _ 8, IntKind.wrap_u8']
  omega
theorem sig32_alt (y x a b : BitVec 32) : a + (turn x 7 25 ^^^ turn x 18 14 ^^^ x >>> 3) + b + (turn y 17 15 ^^^ turn y 19 13 ^^^ y >>> 10) = sig32 y x a b := by
  unfold sig32; ac_rfl
theorem sig64_alt (y x a b : BitVec 64) : a + (turn x 1 63 ^^^ turn x 8 56 ^^^ x >>> 7) + b + (turn y 19 45 ^^^ turn y 61 3 ^^^ y >>> 6) = sig64 y x a b := by
  unfold sig64; ac_rfl
theorem ch_alt {n : Nat} (e f g : BitVec n) : (e &&& f) ^^^ (~~~e &&& g) = ch e f g := by
  apply BitVec.eq_of_getLsbD_eq
  intro i hi
  simp [ch, hi]
  cases e[i] <;> cases f[i] <;> cases g[i] <;> rfl
theorem maj_alt {n : Nat} (a b c : BitVec n) : (a &&& b) ^^^ (a &&& c) ^^^ (b &&& c) = maj a b c := by
  apply BitVec.eq_of_getLsbD_eq
  intro i hi
  simp [maj, hi]
  cases a[i] <;> cases b[i] <;> cases c[i] <;> rfl
/-- The first i words of the schedule. -/
def schedT (M : List (BitVec 32)) (i : Nat) : List (BitVec 32) := if i ≤ 16 then M.take i else sched32 M (i - 16)
def schedL (M : List (BitVec 64)) (i : Nat) : List (BitVec 64) := if i ≤ 16 then M.take i else sched64 M (i - 16)
end Go.Sg
namespace Go.Proofs.YtnlmkikaaifcmaaDoor
open Go.RowKit Go.Sg

abbrev RefTabs (w : World) : Prop := Tabs 6 7 5 3 4 w
theorem turn32_l (x : BitVec 32) (a : Int) (n k : Nat) (w : World) (ha : a = (n : Int)) (h0 : 0 < n) (h1 : n < 32) (hk : n + k = 32) :
    Calls Tryd.prog 22 #[.int .u32 (wi x), .int .i64 a] w fun e w' => e = .returned (.int .u32 (wi (turn x n k))) ∧ w = w' := by
  subst ha; exact turn32_c x n k w h0 h1 hk
theorem turn64_l (x : BitVec 64) (a : Int) (n k : Nat) (w : World) (ha : a = (n : Int)) (h0 : 0 < n) (h1 : n < 64) (hk : n + k = 64) :
    Calls Tryd.prog 23 #[.int .u64 (wi x), .int .i64 a] w fun e w' => e = .returned (.int .u64 (wi (turn x n k))) ∧ w = w' := by
  subst ha; exact turn64_c x n k w h0 h1 hk
theorem not32 (x : BitVec 32) : bits .xor .u32 4294967295 (wi x) = wi (~~~x) := by
  have e : (4294967295 : Int) = wi (BitVec.allOnes 32) := by decide
  rw [e, xor32]
  congr 1
theorem not64 (x : BitVec 64) : bits .xor .u64 18446744073709551615 (wi x) = wi (~~~x) := by
  have e : (18446744073709551615 : Int) = wi (BitVec.allOnes 64) := by decide
  rw [e, xor64]
  congr 1
theorem not32' (x : BitVec 32) : bits .xor .u32 (if IntKind.u32.signed = true then -1 else IntKind.u32.max) (wi x) = wi (~~~x) := not32 x
theorem not64' (x : BitVec 64) : bits .xor .u64 (if IntKind.u64.signed = true then -1 else IntKind.u64.max) (wi x) = wi (~~~x) := not64 x
theorem zero8w : (Tryd.prog.info? 41).map (fun i => (i.zero, i.size)) = some (some (.agg (List.replicate 8 (Value.int .u32 0)).toArray), 8) := by kernel_rfl

set_option maxHeartbeats 16000000 in
set_option maxRecDepth 100000 in
theorem short_c (a : Option Addr) (cap : Nat) (bs : List Int) (w : World) (hx : Sl .u8 w a cap bs) (ub : U8 bs) (hlen : bs.length ≤ 140737488355000) (ht : RefTabs w) :
    Calls Tryd.prog 17 #[.slice a bs.length cap] w (BytesPost (sum32 start256 bs) w) := by
  have hr0 := ht.b256
  go_enter Tryd.func17, Tryd.ntmps17
  go_wp2_with (first | (refine wpList_load_mid rfl 41 (.global 5) rfl 5 0 rfl (start256.list.map v32) _ hr0 Tryd.underlying41 rfl size8w ?_) | (refine wpList_alloc_rw rfl 41 rfl (List.replicate 8 (.int .u32 0)) 8 zero8w ?_))
  intro w1 hk1 hs1 hb1
  go_wp2_with (refine wpList_store_rw rfl 41 (.tmp 3) (.tmp 20) rfl w.heap.size 0 41 _ (start256.list.map v32) rfl rfl hk1 size8w (v32_one _) (by decide) ?_)
  intro w2 hk2 hg2 hs2
  have hk3 : Wds .u32 w2 w.heap.size 41 start256.list := hk2
  have hb2 := hb1.grown hg2 (by omega) (by simp)
  have hx2 := hx.below hb2
  have HS2 : Hid (w2.heap.size = w.heap.size + 1) := Lib.hid (by omega)
  have hgH : w.heap.size < w2.heap.size := by have := HS2.out; omega
  clear hk1 hg2 hk2 hs1 hs2 hb1 hx hr0
  go_wp2_with fail
  refine (rfilled_c a cap bs 64 w2 hx2 hlen (.inl rfl)).mono ?_; rintro e w3 ⟨v3, rfl, hv3, hb3⟩
  obtain ⟨a3, c3, rfl, hsl3⟩ := hv3.sl
  have far3 := hv3.far
  have hk4 : Wds .u32 w3 w.heap.size 41 start256.list := hk3.below hb3 hgH
  have ht3 : RefTabs w3 := (ht.below hb2).below hb3
  have hB3 := hb2.trans (hb3.mono hb2.size)
  obtain ⟨all, hall⟩ : ∃ all, all = padded 64 8 bs := ⟨_, rfl⟩
  rw [← hall] at hsl3 ⊢
  obtain ⟨n, hn⟩ : ∃ n, n = all.length := ⟨_, rfl⟩
  rw [← hn]
  have HN := Lib.hid hn
  have HALL := Lib.hid hall
  have ual : U8 all := by rw [hall]; exact ub.append (by omega) (tail_u8 _ _ _)
  obtain ⟨Q, hQ⟩ : ∃ Q, n = 64 * Q := ⟨n / 64, by
    rw [hn, hall, padded_len]
    unfold gap
    omega⟩
  have HQ := Lib.hid hQ
  have hnb : n ≤ 140737488355300 := by rw [hn, hall, padded_len]; have := gap_le2 (.inl rfl : (64 : Nat) = 64 ∨ 64 = 128) bs.length; omega
  clear hn hall hQ hk3 hv3 hx2 hb2
  go_wp2_with fail
  go_loopw [5] (fun t wr => ∃ q : Nat, q ≤ Q ∧ t = .int .i64 (64 * (q : Int)) ∧ Wds .u32 wr w.heap.size 41 (blocks32 K256 start256 all q).list ∧ w3.grownBy wr (some w.heap.size))
    (fun t _ => n - (intOf t).toNat)
  case atStart => exact ⟨0, by omega, rfl, hk4, rfl, rfl, rfl, Nat.le_refl _, fun _ _ _ => rfl⟩
  case round =>
    clear hk4
    obtain ⟨q, hq, rfl, hH, hg⟩ := hrel
    have hg3 : w.heap.size < w3.heap.size := by have := hb3.size; omega
    have hgs := hg.size
    have hsl : Sl .u8 wr a3 c3 all := hsl3.grown' hg (fun b off ha hp e => by have := far3 b off ha; cases e; omega)
    have htr : RefTabs wr := by
      have := ht.top
      exact ht3.grown hg (by omega)
    by_cases hlt : q < Q
    · have hq1 : 64 * (q : Int) < (n : Int) := by have := HQ.out; omega
      have hd1 : decide (64 * (q : Int) < (n : Int)) = true := decide_eq_true hq1
      have hq2 : 64 * q + 64 ≤ n := by have := HQ.out; omega
      go_wp2_with (refine wpList_alloc_rw rfl 50 rfl (List.replicate 64 (.int .u32 0)) 64 zero64w ?_)
      intro w4 hk5 hs5 hb5
      have hW0 : Wds .u32 w4 wr.heap.size 50 (List.replicate 64 (0 : BitVec 32)) := hk5
      have hH4 : Wds .u32 w4 w.heap.size 41 (blocks32 K256 start256 all q).list := hH.below hb5 (by omega)
      have hsl4 := hsl.below hb5
      have hg4 := only_below hg hb5
      have htr4 := htr.below hb5
      obtain ⟨gW, hgW⟩ : ∃ gW, gW = wr.heap.size := ⟨_, rfl⟩
      rw [← hgW] at hW0 ⊢
      have hne1 : w.heap.size ≠ gW := by omega
      have hgW3 : w3.heap.size ≤ gW := by omega
      obtain ⟨M, hM⟩ : ∃ M, M = words32 all (64 * q) 16 := ⟨_, rfl⟩
      have HM := Lib.hid hM
      have HMl : Hid (M.length = 16) := Lib.hid (by rw [hM, words32_len])
      have far4 : ∀ b off, a3 = some ⟨b, off, none⟩ → 0 < all.length → b ≠ gW := fun b off ha hp e => by
        have := (hsl.cells hp)
        obtain ⟨b', o', ha', hc⟩ := this
        rw [ha] at ha'
        cases ha'
        have := World.block_lt_of_cell? wr _ (hc 0 hp)
        simp at this
        omega
      clear hk5 hs5 hb5 hgW hM hg hH hsl htr
      go_wp2_with fail
      go_loopw [7] (fun t wr => ∃ (i : Nat) (W : List (BitVec 32)), i ≤ 64 ∧ t = .int .i64 (i : Int) ∧ W.length = 64 ∧ W.take i = schedT M i ∧ Wds .u32 wr gW 50 W ∧ Wds .u32 wr w.heap.size 41 (blocks32 K256 start256 all q).list ∧ Sl .u8 wr a3 c3 all ∧ RefTabs wr ∧ w3.grownBy wr (some w.heap.size))
        (fun t _ => 64 - (intOf t).toNat)
      case atStart => exact ⟨0, _, by omega, rfl, by simp, rfl, hW0, hH4, hsl4, htr4, hg4⟩
      case round =>
        clear hW0 hH4 hsl4 htr4 hg4
        obtain ⟨i, W, hi, rfl, hWl, hWt, hW, hH, hsl, htr, hg⟩ := hrel
        have HWl := Lib.hid hWl
        have HWt := Lib.hid hWt
        clear hWl hWt
        by_cases hi16 : i < 16
        · obtain ⟨b, off, rfl, hcc⟩ := hsl.cells (by have := HN.out; omega)
          obtain ⟨p, hp⟩ : ∃ p, p = 64 * q + 4 * i := ⟨_, rfl⟩
          have c0 := hcc p (by have := HN.out; omega)
          have c1 := hcc (p + 1) (by have := HN.out; omega)
          have c2 := hcc (p + 2) (by have := HN.out; omega)
          have c3' := hcc (p + 3) (by have := HN.out; omega)
          have b0 := ual p
          have b1 := ual (p + 1)
          have b2 := ual (p + 2)
          have b3 := ual (p + 3)
          have e0 : 64 * (q : Int) + 4 * (i : Int) = (p : Int) := by omega
          have e1 : (p : Int) + 1 = ((p + 1 : Nat) : Int) := by omega
          have e2 : (p : Int) + 2 = ((p + 2 : Nat) : Int) := by omega
          have e3 : (p : Int) + 3 = ((p + 3 : Nat) : Int) := by omega
          obtain ⟨p1, hp1⟩ : ∃ x, x = p + 1 := ⟨_, rfl⟩
          obtain ⟨p2, hp2⟩ : ∃ x, x = p + 2 := ⟨_, rfl⟩
          obtain ⟨p3, hp3⟩ : ∃ x, x = p + 3 := ⟨_, rfl⟩
          have hword : _ = wi (word32 all p) := word_or b0 b1 b2 b3
          rw [← hp1] at c1 b1 e1 hword
          rw [← hp2] at c2 b2 e2 hword
          rw [← hp3] at c3' b3 e3 hword
          have m0 : p < n := by omega
          have m1 : p1 < n := by omega
          have m2 : p2 < n := by omega
          have m3 : p3 < n := by omega
          have n0 : (p : Int) < (n : Int) := by omega
          have n1 : (p1 : Int) < (n : Int) := by omega
          have n2 : (p2 : Int) < (n : Int) := by omega
          have n3 : (p3 : Int) < (n : Int) := by omega
          have w0 : IntKind.i64.wrap (p1 : Int) = (p1 : Int) := IntWalk.i64_in _ (by omega)
          have w1' : IntKind.i64.wrap (p2 : Int) = (p2 : Int) := IntWalk.i64_in _ (by omega)
          have w2' : IntKind.i64.wrap (p3 : Int) = (p3 : Int) := IntWalk.i64_in _ (by omega)
          have cw := hW.cell i (by rw [HWl.out]; omega)
          have fw := hW.free i
          have hi64 : (i : Int) < 64 := by omega
          have hW' := (hW.set i (word32 all p)).drew
          have hH' := (hH.other hne1 i (.int .u32 (wi (word32 all p)))).drew
          have fin : Hid ((W.set i (word32 all p)).take (i + 1) = schedT M (i + 1)) := Lib.hid (by
            have := HWt.out
            rw [schedT, if_pos (by omega)] at this
            rw [take_set_next _ _ _ (by rw [HWl.out]; omega), this, schedT, if_pos (by omega), List.take_succ_eq_append_getElem (by rw [HMl.out]; omega)]
            simp only [HM.out, words32, List.getElem_map, List.getElem_range, hp])
          have HP := Lib.hid hp
          have HHg := Lib.hid hg
          have HHs := Lib.hid hsl
          have HHt := Lib.hid htr
          clear hp hp1 hp2 hp3 hcc b0 b1 b2 b3 hW hH hg hsl htr
          go_wp2_with fail
          go_still_tail 31, (by kernel_rfl)
          change wpList _ _ _ _ _ wr.drew
          clear hword c0 c1 c2 c3' m0 m1 m2 m3 n0 n1 n2 n3 e0 e1 e2 e3 w0 w1' w2'
          go_wp2_with fail
          have hg' := only_drew (only_setCell (p := ⟨gW, i, none⟩) HHg.out (.inr hgW3) (.int .u32 (wi (word32 all p))))
          have hsl' : Sl .u8 ((wr.setCell ⟨gW, i, none⟩ (.int .u32 (wi (word32 all p)))).drew) (some ⟨b, off, none⟩) c3 all := (HHs.out.grown' (grownBy_set wr ⟨gW, i, none⟩ (.int .u32 (wi (word32 all p)))) (fun b' off' ha hp' e => far4 b' off' ha hp' (Option.some.inj e))).drewN 1
          have htr' : RefTabs ((wr.setCell ⟨gW, i, none⟩ (.int .u32 (wi (word32 all p)))).drew) := (HHt.out.grown (only_drew (grownBy_set wr ⟨gW, i, none⟩ (.int .u32 (wi (word32 all p))))) (by have := ht.top; simp only; omega))
          go_roundw
          case rel => exact ⟨i + 1, _, by omega, by go_num, by rw [List.length_set]; exact HWl.out, fin.out, hW', hH', hsl', htr', hg'⟩
          case measure => simp [intOf]; omega
        · by_cases hlt : i < 64
          · obtain ⟨p15, h15⟩ : ∃ p, i = p + 15 := ⟨i - 15, by omega⟩
            obtain ⟨p2, h2⟩ : ∃ p, i = p + 2 := ⟨i - 2, by omega⟩
            obtain ⟨p16, h16⟩ : ∃ p, i = p + 16 := ⟨i - 16, by omega⟩
            obtain ⟨p7, h7⟩ : ∃ p, i = p + 7 := ⟨i - 7, by omega⟩
            have q15 : p15 < 64 := by omega
            have q2 : p2 < 64 := by omega
            have q16 : p16 < 64 := by omega
            have q7 : p7 < 64 := by omega
            have r15 : (p15 : Int) < 64 := by omega
            have r2 : (p2 : Int) < 64 := by omega
            have r16 : (p16 : Int) < 64 := by omega
            have r7 : (p7 : Int) < 64 := by omega
            have e16 : IntKind.i64.wrap (p16 : Int) = (p16 : Int) := IntWalk.i64_in _ (by omega)
            have e7 : IntKind.i64.wrap (p7 : Int) = (p7 : Int) := IntWalk.i64_in _ (by omega)
            have f15 : ((i : Int) - 15) = (p15 : Int) := by omega
            have f2 : ((i : Int) - 2) = (p2 : Int) := by omega
            have f16 : ((i : Int) - 16) = (p16 : Int) := by omega
            have f7 : ((i : Int) - 7) = (p7 : Int) := by omega
            have c15 := hW.cell p15 (by rw [HWl.out]; omega)
            have c2 := hW.cell p2 (by rw [HWl.out]; omega)
            have c16 := hW.cell p16 (by rw [HWl.out]; omega)
            have c7 := hW.cell p7 (by rw [HWl.out]; omega)
            have ci := hW.cell i (by rw [HWl.out]; omega)
            have fi := hW.free i
            have hi64 : (i : Int) < 64 := by omega
            have hd16 : decide ((i : Int) < 16) = false := decide_eq_false (by omega)
            obtain ⟨X, hX⟩ : ∃ X, X = W.getD p15 0 := ⟨_, rfl⟩
            obtain ⟨Y, hY⟩ : ∃ Y, Y = W.getD p2 0 := ⟨_, rfl⟩
            obtain ⟨A, hA⟩ : ∃ A, A = W.getD p16 0 := ⟨_, rfl⟩
            obtain ⟨B, hB⟩ : ∃ B, B = W.getD p7 0 := ⟨_, rfl⟩
            rw [← hX] at c15
            rw [← hY] at c2
            rw [← hA] at c16
            rw [← hB] at c7
            obtain ⟨Z, hZ⟩ : ∃ Z, Z = A + (turn X 7 25 ^^^ turn X 18 14 ^^^ X >>> 3) + B + (turn Y 17 15 ^^^ turn Y 19 13 ^^^ Y >>> 10) := ⟨_, rfl⟩
            have fin : Hid ((W.set i Z).take (i + 1) = schedT M (i + 1)) := Lib.hid (by
              have hl : (W.take i).length = i := by simp [HWl.out]; omega
              have hT : W.take i = sched32 M (i - 16) := by
                have := HWt.out
                rw [schedT] at this
                by_cases e : i = 16
                · subst e
                  rw [if_pos (by omega), List.take_of_length_le (l := M) (by rw [HMl.out]; omega)] at this
                  exact this
                · rw [if_neg (by omega)] at this
                  exact this
              have e : next32 (W.take i) = Z := by
                rw [hZ, sig32_alt, next32, hl, getD_take _ _ _ _ (by omega), getD_take _ _ _ _ (by omega), getD_take _ _ _ _ (by omega), getD_take _ _ _ _ (by omega), hX, hY, hA, hB]
                rw [show i - 2 = p2 by omega, show i - 15 = p15 by omega, show i - 16 = p16 by omega, show i - 7 = p7 by omega]
              rw [take_set_next _ _ _ (by rw [HWl.out]; omega), ← e, hT, schedT, if_neg (by omega), show i + 1 - 16 = (i - 16) + 1 by omega, sched32])
            have hW' := (hW.set i Z).drew
            have hH' := (hH.other hne1 i (.int .u32 (wi Z))).drew
            have HZ := Lib.hid hZ
            have HHg := Lib.hid hg
            have HHs := Lib.hid hsl
            have HHt := Lib.hid htr
            have W1 := add32
            have W0 := add32m
            have W2 := xor32
            have W3 := shr3
            have W4 := shr10
            clear h15 h2 h16 h7 hX hY hA hB hZ hW hH hg hsl htr
            go_wp2_with fail
            go_still_tail 29, (by kernel_rfl)
            still_call (still_of (turn32_l X 7 7 25 _ rfl (by omega) (by omega) rfl))
            repeat still_step
            still_call (still_of (turn32_l X 18 18 14 _ rfl (by omega) (by omega) rfl))
            repeat still_step
            still_call (still_of (turn32_l Y 17 17 15 _ rfl (by omega) (by omega) rfl))
            repeat still_step
            still_call (still_of (turn32_l Y 19 19 13 _ rfl (by omega) (by omega) rfl))
            repeat still_step
            refine wpStill_nil ?_
            change wpList _ _ _ _ _ wr.drew
            clear W0 W1 W2 W3 W4 c15 c2 c16 c7 f15 f2 f16 f7 e16 e7
            rw [← HZ.out]
            go_wp2_with fail
            have hg' := only_drew (only_setCell (p := ⟨gW, i, none⟩) HHg.out (.inr hgW3) (.int .u32 (wi Z)))
            have hsl' : Sl .u8 ((wr.setCell ⟨gW, i, none⟩ (.int .u32 (wi Z))).drew) a3 c3 all := (HHs.out.grown' (grownBy_set wr ⟨gW, i, none⟩ (.int .u32 (wi Z))) (fun b' off' ha hp' e => far4 b' off' ha hp' (Option.some.inj e))).drewN 1
            have htr' : RefTabs ((wr.setCell ⟨gW, i, none⟩ (.int .u32 (wi Z))).drew) := (HHt.out.grown (only_drew (grownBy_set wr ⟨gW, i, none⟩ (.int .u32 (wi Z)))) (by have := ht.top; simp only; omega))
            go_roundw
            case rel => exact ⟨i + 1, _, by omega, by go_num, by rw [List.length_set]; exact HWl.out, fin.out, hW', hH', hsl', htr', hg'⟩
            case measure => simp [intOf]; omega
          · obtain rfl : i = 64 := by omega
            rw [show ((64 : Nat) : Int) = 64 from rfl]
            have hWs : Hid (W = sched32 M 48) := Lib.hid (by
              have := HWt.out
              rw [List.take_of_length_le (by rw [HWl.out]; omega), schedT, if_neg (by omega)] at this
              exact this)
            clear HWt
            obtain ⟨s0, hs0⟩ : ∃ s0, s0 = blocks32 K256 start256 all q := ⟨_, rfl⟩
            rw [← hs0] at hH
            have HS0 := Lib.hid hs0
            clear hs0
            go_wp2_with (first | (refine wpList_load_rw rfl 41 (.tmp 3) rfl w.heap.size rfl 41 (s0.list.map v32) _ hH Tryd.underlying41 rfl size8w ?_) | (refine wpList_alloc_rw rfl 41 rfl (List.replicate 8 (.int .u32 0)) 8 zero8w ?_))
            intro w5 hk6 hs6 hb6
            go_wp2_with (refine wpList_store_rw rfl 41 (.tmp 11) (.tmp 107) rfl wr.heap.size 0 41 _ (s0.list.map v32) rfl rfl hk6 size8w (v32_one _) (show 0 + 8 ≤ 8 from Nat.le_refl 8) ?_)
            intro w6 hk7 hg7 hs7
            have hV0 : Wds .u32 w6 wr.heap.size 41 s0.list := hk7
            have hbA : Below wr.heap.size wr w6 := hb6.grown hg7 (by omega) (by simp)
            have hW6 : Wds .u32 w6 gW 50 W := hW.below hbA hW.lt
            have hH6 : Wds .u32 w6 w.heap.size 41 s0.list := hH.below hbA hH.lt
            have hsl6 := hsl.below hbA
            have htr6 := htr.below hbA
            have hg6 := only_below hg hbA
            have hWlt := hW.lt
            have hHlt := hH.lt
            have hgr := hg.size
            obtain ⟨gV, hgV⟩ : ∃ gV, gV = wr.heap.size := ⟨_, rfl⟩
            rw [← hgV] at hV0 hWlt hHlt hgr ⊢
            have far5 : ∀ b off, a3 = some ⟨b, off, none⟩ → 0 < all.length → b ≠ gV := fun b off ha hp e => by
              obtain ⟨b', o', ha', hc⟩ := hsl.cells hp
              rw [ha] at ha'
              cases ha'
              have := World.block_lt_of_cell? wr _ (hc 0 hp)
              simp at this
              omega
            clear hk6 hs6 hb6 hk7 hg7 hs7 hbA hW hH hsl htr hg hgV
            go_wp2_with fail
            go_loopw [12] (fun t wr => ∃ (k : Nat) (s : S8 32), k ≤ 64 ∧ t = .int .i64 (k : Int) ∧ s = rounds32 K256 W s0 k ∧ Wds .u32 wr gV 41 s.list ∧ Wds .u32 wr gW 50 W ∧ Wds .u32 wr w.heap.size 41 s0.list ∧ Sl .u8 wr a3 c3 all ∧ RefTabs wr ∧ w3.grownBy wr (some w.heap.size))
              (fun t _ => 64 - (intOf t).toNat)
            case atStart => exact ⟨0, s0, by omega, rfl, rfl, hV0, hW6, hH6, hsl6, htr6, hg6⟩
            case round =>
              clear hV0 hW6 hH6 hsl6 htr6 hg6
              obtain ⟨k, s, hk, rfl, hse, hV, hW, hH, hsl, htr, hg⟩ := hrel
              have HS := Lib.hid hse
              clear hse
              by_cases hlt : k < 64
              · have v0 : wr.cell? ⟨gV, 0, none⟩ = some (.int .u32 (wi s.a)) := hV.cell 0 (show 0 < 8 by omega)
                have v1 : wr.cell? ⟨gV, 1, none⟩ = some (.int .u32 (wi s.b)) := hV.cell 1 (show 1 < 8 by omega)
                have v2 : wr.cell? ⟨gV, 2, none⟩ = some (.int .u32 (wi s.c)) := hV.cell 2 (show 2 < 8 by omega)
                have v3 : wr.cell? ⟨gV, 3, none⟩ = some (.int .u32 (wi s.d)) := hV.cell 3 (show 3 < 8 by omega)
                have v4 : wr.cell? ⟨gV, 4, none⟩ = some (.int .u32 (wi s.e)) := hV.cell 4 (show 4 < 8 by omega)
                have v5 : wr.cell? ⟨gV, 5, none⟩ = some (.int .u32 (wi s.f)) := hV.cell 5 (show 5 < 8 by omega)
                have v6 : wr.cell? ⟨gV, 6, none⟩ = some (.int .u32 (wi s.g)) := hV.cell 6 (show 6 < 8 by omega)
                have v7 : wr.cell? ⟨gV, 7, none⟩ = some (.int .u32 (wi s.h)) := hV.cell 7 (show 7 < 8 by omega)
                have kc := htr.k256 k hlt
                have wc := hW.cell k (by rw [HWl.out]; omega)
                obtain ⟨kk, hkk⟩ : ∃ x, x = K256.getD k 0 := ⟨_, rfl⟩
                obtain ⟨ww, hww⟩ : ∃ x, x = W.getD k 0 := ⟨_, rfl⟩
                rw [← hkk] at kc
                rw [← hww] at wc
                have fin : Hid (round32 s kk ww = rounds32 K256 W s0 (k + 1)) := Lib.hid (by rw [rounds32, ← HS.out, hkk, hww])
                have hk64 : (k : Int) < 64 := by omega
                have W1 := add32
                have W0 := add32m
                have W2 := xor32
                have W3 := and32
                have W4 := or32
                have W5 := not32'
                obtain ⟨T, hT⟩ : ∃ T, T = s.h + (turn s.e 6 26 ^^^ turn s.e 11 21 ^^^ turn s.e 25 7) + ((s.e &&& s.f) ^^^ (~~~s.e &&& s.g)) + kk + ww := ⟨_, rfl⟩
                obtain ⟨U, hU⟩ : ∃ U, U = (turn s.a 2 30 ^^^ turn s.a 13 19 ^^^ turn s.a 22 10) + ((s.a &&& s.b) ^^^ (s.a &&& s.c) ^^^ (s.b &&& s.c)) := ⟨_, rfl⟩
                have hR : Hid ((round32 s kk ww).list = [T + U, s.a, s.b, s.c, s.d + T, s.e, s.f, s.g]) := Lib.hid (by
                  rw [hT, hU, ch_alt, maj_alt]; rfl)
                have HT := Lib.hid hT
                have HU := Lib.hid hU
                clear hkk hww hT hU
                go_wp2_with fail
                go_quiet ((exact quiet_of' (turn32_any _ _ _ (by decide) (by decide))))
                rw [← HT.out]
                generalize hwq : wr.drewN nq = wq
                have v0 : wq.cell? ⟨gV, 0, none⟩ = some (.int .u32 (wi s.a)) := by rw [← hwq]; exact v0
                have v1 : wq.cell? ⟨gV, 1, none⟩ = some (.int .u32 (wi s.b)) := by rw [← hwq]; exact v1
                have v2 : wq.cell? ⟨gV, 2, none⟩ = some (.int .u32 (wi s.c)) := by rw [← hwq]; exact v2
                have v3 : wq.cell? ⟨gV, 3, none⟩ = some (.int .u32 (wi s.d)) := by rw [← hwq]; exact v3
                have v5 : wq.cell? ⟨gV, 5, none⟩ = some (.int .u32 (wi s.f)) := by rw [← hwq]; exact v5
                have v6 : wq.cell? ⟨gV, 6, none⟩ = some (.int .u32 (wi s.g)) := by rw [← hwq]; exact v6
                replace hV : Wds .u32 wq gV 41 s.list := by rw [← hwq]; exact hV.drewN _
                replace hW : Wds .u32 wq gW 50 W := by rw [← hwq]; exact hW.drewN _
                replace hH : Wds .u32 wq w.heap.size 41 s0.list := by rw [← hwq]; exact hH.drewN _
                replace hsl : Sl .u8 wq a3 c3 all := by rw [← hwq]; exact hsl.drewN _
                replace htr : RefTabs wq := by rw [← hwq]; exact htr.below (below_drewN (.refl _ _) _)
                replace hg : w3.grownBy wq (some w.heap.size) := by rw [← hwq]; exact only_drewN hg _
                clear kc wc v4 v7 hwq
                go_wp2_with fail
                go_quiet ((exact quiet_of' (turn32_any _ _ _ (by decide) (by decide))))
                rw [← HU.out]
                clear W2 W3 W4 W5
                go_wp2_with (refine wpList_store_rw rfl 41 (.tmp 11) (.tmp 187) rfl gV 0 41 _ ([T + U, s.a, s.b, s.c, s.d + T, s.e, s.f, s.g].map v32) rfl rfl hV size8w (v32_one _) (show 0 + 8 ≤ 8 from Nat.le_refl 8) ?_)
                intro w7 hk8 hg8 hs8
                have hV7 : Wds .u32 w7 gV 41 (round32 s kk ww).list := by rw [hR.out]; exact hk8
                have hW7 : Wds .u32 w7 gW 50 W := Rw.grown (hW.drewN nq) hg8 (by simp; omega)
                have hH7 : Wds .u32 w7 w.heap.size 41 s0.list := Rw.grown (hH.drewN nq) hg8 (by simp; omega)
                have hsl7 : Sl .u8 w7 a3 c3 all := (hsl.drewN nq).grown' hg8 (fun b off ha hp e => far5 b off ha hp (Option.some.inj e))
                have htr7 : RefTabs w7 := (htr.below (below_drewN (.refl _ _) nq)).grown hg8 (by have := ht.top; omega)
                have hg7 := only_then (only_drewN hg nq) hg8 (.inr hgr)
                clear hk8 hg8 hs8 hV hW hH hsl htr hg
                go_wp2_with fail
                go_roundw
                case rel => exact ⟨k + 1, round32 s kk ww, by omega, by go_num, fin.out, hV7, hW7, hH7, hsl7, htr7, hg7⟩
                case measure => simp [intOf]; omega
              · obtain rfl : k = 64 := by omega
                rw [show ((64 : Nat) : Int) = 64 from rfl]
                obtain ⟨res, hres⟩ : ∃ res, res = (s0.plus s).list := ⟨_, rfl⟩
                have hrl : Hid (res.length = 8) := Lib.hid (by rw [hres]; rfl)
                have hrn : Hid (res = (blocks32 K256 start256 all (q + 1)).list) := Lib.hid (by rw [hres, HS.out, blocks32, block32, ← HS0.out, hWs.out, HM.out])
                have HR := Lib.hid hres
                have hH0 : Wds .u32 wr w.heap.size 41 (res.take 0 ++ s0.list.drop 0) := hH
                clear hres HS hH
                go_wp2_with fail
                go_loopw [17] (fun t wr => ∃ (k : Nat), k ≤ 8 ∧ t = .int .i64 (k : Int) ∧ Wds .u32 wr w.heap.size 41 (res.take k ++ s0.list.drop k) ∧ Wds .u32 wr gV 41 s.list ∧ w3.grownBy wr (some w.heap.size))
                  (fun t _ => 8 - (intOf t).toNat)
                case atStart => exact ⟨0, by omega, rfl, hH0, hV, hg⟩
                case round =>
                  clear hH0 hV hg hW
                  obtain ⟨k, hk, rfl, hH, hV, hg⟩ := hrel
                  by_cases hlt : k < 8
                  · have ch := hH.cell k (by rw [List.length_append, List.length_take, List.length_drop, hrl.out, s8_len]; omega)
                    rw [mix_get _ _ _ _ (by rw [hrl.out]; omega) (by rw [s8_len]; omega)] at ch
                    have cv := hV.cell k (by rw [s8_len]; omega)
                    have fh := hH.free k
                    obtain ⟨x, hx⟩ : ∃ x, x = s0.list.getD k 0 := ⟨_, rfl⟩
                    obtain ⟨y, hy⟩ : ∃ y, y = s.list.getD k 0 := ⟨_, rfl⟩
                    rw [← hx] at ch
                    rw [← hy] at cv
                    have hH' := hH.set k (x + y)
                    rw [show (res.take k ++ s0.list.drop k).set k (x + y) = res.take (k + 1) ++ s0.list.drop (k + 1) by
                      rw [show x + y = res.getD k 0 by rw [HR.out, plus_getD _ _ _ hlt, hx, hy]]
                      exact mix_set _ _ _ _ (by rw [hrl.out]; omega) (by rw [s8_len]; omega)] at hH'
                    have hV' := hV.other (show gV ≠ w.heap.size by omega) k (.int .u32 (wi (x + y)))
                    have hk8 : (k : Int) < 8 := by omega
                    have W1 := add32
                    have W0 := add32m
                    clear hx hy hH hV
                    go_wp2_with fail
                    go_still_tail 9, (by kernel_rfl)
                    change wpList _ _ _ _ _ wr.drew
                    have hg2 := only_drew (only_setCell (p := ⟨w.heap.size, k, none⟩) hg (.inl rfl) (.int .u32 (wi (x + y))))
                    go_wp2_with fail
                    go_roundw
                    case rel => exact ⟨k + 1, by omega, by go_num, hH'.drew, hV'.drew, hg2⟩
                    case measure => simp [intOf]; omega
                  · obtain rfl : k = 8 := by omega
                    rw [show ((8 : Nat) : Int) = 8 from rfl]
                    rw [List.take_of_length_le (by rw [hrl.out]; omega), List.drop_of_length_le (by rw [s8_len]; omega), List.append_nil, hrn.out] at hH
                    go_wp2_with fail
                    go_roundw
                    case rel => exact ⟨q + 1, by omega, by go_num, hH, hg⟩
                    case measure => have := HQ.out; simp [intOf]; omega
    · obtain rfl : q = Q := by omega
      have hd1 : decide (64 * (q : Int) < (n : Int)) = false := decide_eq_false (by have := HQ.out; omega)
      obtain ⟨res, hres⟩ : ∃ res, res = (blocks32 K256 start256 all q).list := ⟨_, rfl⟩
      rw [← hres] at hH
      have hsum : Hid (res.flatMap bytes32 = sum32 start256 bs) := Lib.hid (by
        have e : all.length / 64 = q := by rw [← HN.out, HQ.out]; omega
        rw [hres, sum32, ← HALL.out, e])
      have hrl : Hid (res.length = 8) := Lib.hid (by rw [hres]; rfl)
      clear hres hsl htr
      obtain ⟨wo, hwo⟩ : ∃ wo : World, wo = wr := ⟨_, rfl⟩
      subst hwo
      go_wp2_with fail
      go_loopw [18, 19] (fun v t wr => ∃ (k : Nat), k ≤ 8 ∧ t = .int .i64 (k : Int) ∧ New wo.heap.size .u8 5 wr v ((res.take k).flatMap bytes32) ∧ Below wo.heap.size wo wr)
        (fun _ t _ => 8 - (intOf t).toNat)
      case atStart => exact ⟨0, by omega, rfl, .nil _ _ _ _, .refl _ _⟩
      case round =>
        obtain ⟨k, hk, rfl, hv, hb⟩ := hrel
        have hbs := hb.size
        obtain ⟨a2, cap2, rfl, hsl⟩ := hv.sl
        obtain ⟨l3, hl3⟩ : ∃ l3, l3 = ((res.take k).flatMap bytes32).length := ⟨_, rfl⟩
        rw [← hl3] at hv ⊢
        have HL3 : Hid (l3 = 4 * k) := Lib.hid (by rw [hl3, flat32_len, List.length_take, hrl.out]; omega)
        have HLL3 := Lib.hid hl3
        by_cases hlt8 : k < 8
        · have hHk : Wds .u32 wr w.heap.size 41 res := hH.below hb hH.lt
          have ch := hHk.cell k (by rw [hrl.out]; omega)
          have lb3 : l3 ≤ 32 := by have := HL3.out; omega
          obtain ⟨V, hV⟩ : ∃ V, V = (res.getD k 0).toNat := ⟨_, rfl⟩
          have hVb : V < 4294967296 := by rw [hV]; exact (res.getD k 0).isLt
          have e : wi (res.getD k 0) = (V : Int) := by rw [hV]; rfl
          rw [e] at ch
          obtain ⟨x0, hx0⟩ : ∃ x, x = V / 16777216 % 256 := ⟨_, rfl⟩
          obtain ⟨x1, hx1⟩ : ∃ x, x = V / 65536 % 256 := ⟨_, rfl⟩
          obtain ⟨x2, hx2⟩ : ∃ x, x = V / 256 % 256 := ⟨_, rfl⟩
          obtain ⟨x3, hx3⟩ : ∃ x, x = V % 256 := ⟨_, rfl⟩
          have a0 : IntKind.u8.wrap ((V : Int) / 16777216) = (x0 : Int) := by rw [IntKind.wrap_u8', hx0]; omega
          have a1 : IntKind.u8.wrap (bits .and .u32 ((V : Int) / 65536) 255) = (x1 : Int) := by
            rw [show (V : Int) / 65536 = ((V / 65536 : Nat) : Int) by omega, and255 _ (by omega), hx1]
          have a2' : IntKind.u8.wrap (bits .and .u32 ((V : Int) / 256) 255) = (x2 : Int) := by
            rw [show (V : Int) / 256 = ((V / 256 : Nat) : Int) by omega, and255 _ (by omega), hx2]
          have a3' : IntKind.u8.wrap (bits .and .u32 (V : Int) 255) = (x3 : Int) := by
            rw [and255 _ (by omega), hx3]
          have fin : Hid ((res.take (k + 1)).flatMap bytes32 = (res.take k).flatMap bytes32 ++ [(x0 : Int), (x1 : Int), (x2 : Int), (x3 : Int)]) := Lib.hid (by
            rw [flat32_next _ _ (by rw [hrl.out]; omega), bytes32, ← hV, hx0, hx1, hx2, hx3])
          have hk8 : (k : Int) < 8 := by omega
          have hlt1 := fun g hg => (hv.lt g hg).1
          have hfar : some w.heap.size ≠ (Value.slice a2 l3 cap2).ownBlock := fun e => by
            have := hlt1 _ e.symm
            omega
          have hws3 : w.heap.size < wr.heap.size := by omega
          clear hl3 hV e hx0 hx1 hx2 hx3 hsl hHk
          go_wp2_with fail
          go_region_held3 (fun w' => w'.cell? ⟨w.heap.size, k, none⟩ = some (.int .u32 (V : Int))) (first | go_keep | (rw [hg'.cell_far _ (by simp; omega) hfar]; go_keep))
            ((refine step_append_new _ (by rfl) _ _ 29 (by rfl) wo.heap.size 5 .u8 1 Tryd.underlying29 info8s _ _ (by rfl) (hv.alloc _).drew _ _ 4 [(x0 : Int), (x1 : Int), (x2 : Int), (x3 : Int)] (by rfl) (by rfl) ((cells_new .u8 wr 5 [(x0 : Int), (x1 : Int), (x2 : Int), (x3 : Int)] _ rfl _ rfl).cells.drewN 1) (by rw [← HLL3.out]; simp only [List.length_cons, List.length_nil]; omega) (by rw [← HLL3.out]; simp only [List.length_cons, List.length_nil]; omega) (by simp; omega) ?_; intro v' w' hv' hg'))
          have hb' : Below wo.heap.size wo w' := (hb.alloc hbs _).drew.grown hg' (by simp; omega) hlt1
          rw [← fin.out] at hv'
          clear hv hg' hb
          go_wp2_with fail
          go_roundw
          case rel => exact ⟨k + 1, by omega, by go_num, hv', hb'⟩
          case measure => simp [intOf]; omega
        · obtain rfl : k = 8 := by omega
          rw [show ((8 : Nat) : Int) = 8 from rfl]
          rw [List.take_of_length_le (Nat.le_of_eq hrl.out), hsum.out] at hv
          have hws : w.heap.size ≤ wo.heap.size := by omega
          have hwo : Below w.heap.size w wo := below_then hB3 hg (Nat.le_refl _) hB3.size
          have hfin : Below w.heap.size w wr := hwo.trans (hb.mono hwo.size)
          clear hl3 hsl
          go_wp2_with fail
          go_ret
          exact ⟨_, rfl, hv.mono hws, hfin⟩
end Go.Proofs.YtnlmkikaaifcmaaDoor
