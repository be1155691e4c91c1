/- pss.Mask by its contract. -/
import Derived.Test.YtponfoijmmegmaaDoorPssL
set_option linter.unusedVariables false
set_option linter.unusedSimpArgs false
namespace Go.Sg
open Go.RowKit
theorem i64_and255 (n : Int) : bits .and .i64 n 255 = n % 256 := by
  have h255 : (BitVec.ofInt 64 255).toNat = 2 ^ 8 - 1 := by decide
  have key : (BitVec.ofInt 64 n &&& BitVec.ofInt 64 255).toNat = (n % ((2 ^ 64 : Nat) : Int)).toNat % 2 ^ 8 := by
    rw [BitVec.toNat_and, BitVec.toNat_ofInt, h255, Nat.and_two_pow_sub_one_eq_mod]
  show IntKind.i64.wrap ((BitVec.ofInt 64 n &&& BitVec.ofInt 64 255).toNat : Nat) = n % 256
  rw [key, IntKind.wrap_i64]
  omega
/-- What Mask hands back. -/
def mres (h : Int) (seed : List Int) (n : Int) : List Int := if IsHash h ∧ 0 ≤ n ∧ n ≤ 65536 then maskOf h seed n.toNat else []
def mcode (h n : Int) : Int := if IsHash h then (if 0 ≤ n ∧ n ≤ 65536 then 0 else 10) else 111
theorem mres_u8 (h : Int) (seed : List Int) (n : Int) : U8 (mres h seed n) := by
  unfold mres
  split
  · exact maskOf_u8 _ _ _
  · exact .nil (by omega)
end Go.Sg
namespace Go.Proofs.YtponfoijmmegmaaDoor
open Go.RowKit Go.Sg
def MaskPost (h : Int) (seed : List Int) (n : Int) (w : World) (e : Ending) (w' : World) : Prop := ∃ v, e = .returned (.tuple #[v, .int .i64 (mcode h n)]) ∧ New w.heap.size .u8 5 w' v (mres h seed n) ∧ Below w.heap.size w w'

set_option maxHeartbeats 4000000 in
set_option maxRecDepth 20000 in
theorem pMask_c (h n : Int) (a : Option Addr) (cap : Nat) (seed : List Int) (w : World) (hx : Sl .u8 w a cap seed) (ux : U8 seed) (hl : seed.length ≤ 1048576) (ht : ShaTabs w) :
    Calls Tryd.prog 18 #[.int .i64 h, .slice a seed.length cap, .int .i64 n] w (MaskPost h seed n w) := by
  have sz := Size_c h w
  by_cases hh : IsHash h
  · obtain ⟨z, hz⟩ : ∃ z, z = shaSize h := ⟨_, rfl⟩
    have hz0 : 0 < z := by rw [hz]; exact hh.size_le.2.1
    rw [← hz] at sz
    have e0 : ((z : Int) == 0) = false := beq_false_of_ne (by omega)
    clear hz
    by_cases hn : 0 ≤ n ∧ n ≤ 65536
    · obtain ⟨N, rfl⟩ : ∃ N : Nat, n = (N : Int) := ⟨n.toNat, by omega⟩
      have nb : N ≤ 65536 := by omega
      have d0 : decide ((N : Int) < 0) = false := decide_eq_false (by omega)
      have d1 : decide ((65536 : Int) < (N : Int)) = false := decide_eq_false (by omega)
      have d2 : ¬ (65536 : Int) < (N : Int) := by omega
      have er : Hid (mres h seed (N : Int) = maskOf h seed N) := Lib.hid (by unfold mres; rw [if_pos ⟨hh, hn⟩, Int.toNat_natCast])
      have ec : Hid (mcode h (N : Int) = 0) := Lib.hid (by unfold mcode; rw [if_pos hh, if_pos hn])
      have top := ht.top
      clear hn
      go_enter Tryd.func18, Tryd.ntmps18
      go_wp2_with fail
      refine sz.mono ?_; rintro e w' ⟨rfl, rfl⟩
      clear sz
      go_wp2_with (at_make; refine wpList_make_blk _ rfl _ _ 23 rfl 5 .u8 1 Tryd.underlying23 info8s N _ _ rfl rfl rfl rfl (by omega) (by omega) ?_)
      intro w1 hk1 hs1 hb1
      have hx1 := hx.below hb1
      have ap := hx.apart (Nat.le_refl w.heap.size)
      have ht1 := ht.below hb1
      obtain ⟨G, hG⟩ : ∃ G, G = w.heap.size := ⟨_, rfl⟩
      rw [← hG] at hk1 ap top ⊢
      have hGw : w.heap.size ≤ G := Nat.le_of_eq hG.symm
      clear hG hs1
      go_wp2_with fail
      have hk0 : Blk w1 G .u8 5 (List.replicate N 0 ++ []) := by rw [List.append_nil]; exact hk1
      refine (pmask_c h hh a cap seed (List.replicate N 0) [] G N N w1 hx1 ux List.length_replicate _ (isR_blk G 5) hk0 nb (Nat.le_refl _) hl ap top ht1).mono ?_; rintro e w2 ⟨rfl, hk2, hg2⟩
      rw [xl_zero (maskOf_len hh _ _) (maskOf_u8 _ _ _), List.append_nil] at hk2
      have hb2 := below_then hb1 hg2 hGw hb1.size
      have hnew := New.of_blk hk2 hGw N N (Nat.le_refl _) (by rw [maskOf_len hh]; exact Nat.le_refl _) (by omega)
      rw [List.take_of_length_le (by rw [maskOf_len hh]; exact Nat.le_refl _)] at hnew
      clear hk2 hg2 hk1 hk0 hb1
      go_wp2_with fail
      go_ret2
      exact ⟨_, by rw [ec.out]; first | done | rfl, by rw [er.out]; exact hnew, hb2⟩
    · have er : Hid (mres h seed n = []) := Lib.hid (by unfold mres; rw [if_neg fun e => hn e.2])
      have ec : Hid (mcode h n = 10) := Lib.hid (by unfold mcode; rw [if_pos hh, if_neg hn])
      by_cases q : n < 0
      · have d0 : decide (n < 0) = true := decide_eq_true q
        go_enter Tryd.func18, Tryd.ntmps18
        go_wp2_with fail
        refine sz.mono ?_; rintro e w' ⟨rfl, rfl⟩
        go_wp2_with fail
        go_ret2
        exact ⟨_, by rw [ec.out]; first | done | rfl, by rw [er.out]; exact .nil _ _ _ _, .refl _ _⟩
      · have d0 : decide (n < 0) = false := decide_eq_false q
        have d1 : decide ((65536 : Int) < n) = true := decide_eq_true (by omega)
        clear hn
        go_enter Tryd.func18, Tryd.ntmps18
        go_wp2_with fail
        refine sz.mono ?_; rintro e w' ⟨rfl, rfl⟩
        go_wp2_with fail
        go_ret2
        exact ⟨_, by rw [ec.out]; first | done | rfl, by rw [er.out]; exact .nil _ _ _ _, .refl _ _⟩
  · rw [shaSize_no hh] at sz
    have er : Hid (mres h seed n = []) := Lib.hid (by unfold mres; rw [if_neg fun e => hh e.1])
    have ec : Hid (mcode h n = 111) := Lib.hid (by unfold mcode; rw [if_neg hh])
    go_enter Tryd.func18, Tryd.ntmps18
    go_wp2_with fail
    refine sz.mono ?_; rintro e w' ⟨rfl, rfl⟩
    go_wp2_with fail
    go_ret2
    exact ⟨_, by rw [ec.out]; first | done | rfl, by rw [er.out]; exact .nil _ _ _ _, .refl _ _⟩
end Go.Proofs.YtponfoijmmegmaaDoor
