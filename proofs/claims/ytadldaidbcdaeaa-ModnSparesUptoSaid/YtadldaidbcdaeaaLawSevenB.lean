/- signetlaw7: is, divisor, awake, by their contracts. (Printed by gen_lawsevenb.py.) -/
import Derived.Test.YtadldaidbcdaeaaLawSevenA
import Derived.Deep.LoopGhost
set_option linter.unusedVariables false
set_option linter.unusedSimpArgs false
namespace Go.Proofs.Ytadldaidbcdaeaa
open Go.RowKit Go.Sg

set_option maxHeartbeats 2000000 in
theorem is_yes {v v' v'' : Value} {r n m : Nat} {W : World} (h : CanAt W v r) (h' : NumAt W v' n) (h'' : NumAt W v'' m) (h0 : 0 < m) (e : r = n % m) :
    Calls Try.prog 69 #[v, v', v''] W (TruePost W) := by
  have H0 := Lib.hid h0
  have hlt : Hid (r < m) := Lib.hid (by rw [e]; exact Nat.mod_lt _ h0)
  have he := Lib.hid e
  have dc := div_ok h' h'' h0
  clear h0 e
  obtain ⟨a, c, zs, rfl, s, cz, u, hv, hl⟩ := h
  have hB := Below.refl W.heap.size W
  have hcz : topz zs = zs.length := cz
  have HC := Lib.hid hcz
  clear hcz
  go_enter Try.func69, Try.ntmps69
  go_wp2_with fail
  refine dc.mono ?_; rintro e w1 ⟨vq, vr, rfl, cq, cr, hb⟩
  replace s := s.below hb
  replace h'' := h''.below hb
  replace hB := hB.trans (hb.mono hB.size)
  have cs : CanAt w1 (.slice a zs.length c) r := ⟨a, c, zs, rfl, s, cz, u, hv, hl⟩
  have sc := same_yes cs cr he.out
  obtain ⟨l, hl1⟩ : ∃ l, l = zs.length := ⟨_, rfl⟩
  have nr := cs.num
  rw [← hl1] at sc cs nr ⊢
  have HL := Lib.hid hl1
  clear hb dc cq cr hl1
  go_wp2_with fail
  refine sc.mono ?_; rintro e w2 ⟨rfl, hd⟩
  replace s := s.below hd.b
  replace nr := nr.below hd.b
  replace h'' := h''.below hd.b
  replace hB := hB.trans (hd.b.mono hB.size)
  clear hd sc cs
  go_wp2_with fail
  refine (cmp_v nr h'').mono ?_; rintro e w3 ⟨rfl, hd⟩
  rw [cmpI_lt hlt.out]
  replace s := s.below hd.b
  replace hB := hB.trans (hd.b.mono hB.size)
  have lc := limbs_c a c zs w3 s
  rw [HC.out, ← HL.out] at lc
  have e1 : ((l : Int) == (l : Int)) = true := by simp
  clear hd nr h''
  go_wp2_with fail
  refine lc.mono ?_; rintro e w' ⟨rfl, rfl⟩
  go_wp2_with fail
  go_ret
  exact ⟨rfl, hB⟩

def DivisorPost (a b : Nat) (w : World) (e : Ending) (w' : World) : Prop := ∃ v, e = .returned v ∧ NumAt w' v (Nat.gcd a b) ∧ Below w.heap.size w w'
def DvRel (a b : Nat) (w : World) (g : Nat) (v v' : Value) (wr : World) : Prop := ∃ x y, NumAt wr v x ∧ NumAt wr v' y ∧ g = y ∧ Nat.gcd x y = Nat.gcd a b ∧ Below w.heap.size w wr
theorem nl_pos {n : Nat} (h : n ≠ 0) : 0 < nl n := by
  have := bl_pos h
  unfold nl
  omega
set_option maxHeartbeats 2000000 in
theorem divisor_v {v v' : Value} {a b : Nat} {w : World} (h : NumAt w v a) (h' : NumAt w v' b) : Calls Try.prog 66 #[v, v'] w (DivisorPost a b w) := by
  have hB := Below.refl w.heap.size w
  go_enter Try.func66, Try.ntmps66
  go_wp2_with fail
  go_loopg [0, 1] b (fun g v v' wr => DvRel a b w g v v' wr)
  case atStart => exact ⟨a, b, h, h', rfl, rfl, hB⟩
  case round =>
    clear h h' hB
    obtain ⟨x, y, nx, ny, hg, hgcd, hB⟩ := hrel
    have HG := Lib.hid hg
    have HGCD := Lib.hid hgcd
    clear hg hgcd
    have lc := limbs_v ny
    obtain ⟨k, hk⟩ : ∃ k, k = nl y := ⟨_, rfl⟩
    rw [← hk] at lc
    by_cases h0 : y = 0
    · subst h0
      obtain rfl : k = 0 := hk
      have fin : Hid (x = Nat.gcd a b) := Lib.hid (by rw [← HGCD.out, Nat.gcd_zero_right])
      go_wp2_with fail
      refine lc.mono ?_; rintro e w' ⟨rfl, rfl⟩
      go_wp2_with fail
      go_ret
      exact ⟨_, rfl, by rw [← fin.out]; exact nx, hB⟩
    · have hk0 : 0 < k := by rw [hk]; exact nl_pos h0
      have hd : decide ((0 : Int) < (k : Int)) = true := decide_eq_true (by omega)
      have hdn : decide (0 < k) = true := decide_eq_true hk0
      have Y0 : Hid (0 < y) := Lib.hid (by omega)
      clear hk h0
      go_wp2_with fail
      refine lc.mono ?_; rintro e w' ⟨rfl, rfl⟩
      clear lc
      go_wp2_with fail
      refine (div_ok nx ny Y0.out).mono ?_; rintro e w2 ⟨vq, vr, rfl, cq, cr, hb⟩
      replace ny := ny.below hb
      replace hB := hB.trans (hb.mono hB.size)
      have nr := cr.num
      have TG : Hid (x % y < y) := Lib.hid (Nat.mod_lt _ Y0.out)
      clear hb cq cr nx
      go_wp2_with fail
      refine (cmp_v nr ny).mono ?_; rintro e w3 ⟨rfl, hd2⟩
      rw [cmpI_lt TG.out]
      replace ny := ny.below hd2.b
      replace nr := nr.below hd2.b
      replace hB := hB.trans (hd2.b.mono hB.size)
      have G2 : Hid (Nat.gcd y (x % y) = Nat.gcd a b) := Lib.hid (by rw [Nat.gcd_comm y, ← Nat.gcd_rec, Nat.gcd_comm]; exact HGCD.out)
      clear hd2
      go_wp2_with fail
      go_roundg (x % y)
      case measure => (have := HG.out; have := TG.out; omega)
      case rel => exact ⟨_, _, ny, nr, rfl, G2.out, hB⟩

theorem ok_a : Ok3 5 9 11 := ⟨by decide, by decide, by decide, by omega⟩
theorem ok_b : Ok3 3 4 100 := ⟨by decide, by decide, by decide, by omega⟩
theorem ok_c : Ok3 3 0 10 := ⟨by decide, by decide, by decide, by omega⟩
theorem seven : ∀ x, x < 10 → x * 3 % 10 = 1 → x = 7 := by decide

set_option maxHeartbeats 4000000 in
theorem awake_v (w : World) : Calls Try.prog 63 #[] w (TruePost w) := by
  go_enter Try.func63, Try.ntmps63
  have hB := Below.refl w.heap.size w
  have hb := below_one w (.cells #[.int .u32 5] 52)
  replace hB := hB.trans (hb.mono hB.size)
  clear hb
  have ca := can_lit w (w.heap.size) 5 5 rfl (by simp) (by omega) (by omega)
  have hb := below_one (w.alloc (.cells #[.int .u32 5] 52)) (.cells #[.int .u32 9] 52)
  replace ca := ca.below hb
  replace hB := hB.trans (hb.mono hB.size)
  clear hb
  have cb := can_lit (w.alloc (.cells #[.int .u32 5] 52)) (w.heap.size + 1) 9 9 rfl (by simp) (by omega) (by omega)
  have hb := below_one ((w.alloc (.cells #[.int .u32 5] 52)).alloc (.cells #[.int .u32 9] 52)) (.cells #[.int .u32 11] 52)
  replace ca := ca.below hb
  replace cb := cb.below hb
  replace hB := hB.trans (hb.mono hB.size)
  clear hb
  have cm := can_lit ((w.alloc (.cells #[.int .u32 5] 52)).alloc (.cells #[.int .u32 9] 52)) (w.heap.size + 1 + 1) 11 11 rfl (by simp) (by omega) (by omega)
  go_wp2_with fail
  refine (mAdd_ok ca.num cb.num cm.num ok_a).mono ?_; rintro e w1 ⟨vx, rfl, cx, hb⟩
  replace ca := ca.below hb
  replace cb := cb.below hb
  replace cm := cm.below hb
  replace hB := hB.trans (hb.mono hB.size)
  clear hb
  clear ca
  clear cb
  clear cm
  have hb := below_one w1 (.cells #[.int .u32 3] 52)
  replace cx := cx.below hb
  replace hB := hB.trans (hb.mono hB.size)
  clear hb
  have ca := can_lit w1 (w1.heap.size) 3 3 rfl (by simp) (by omega) (by omega)
  have hb := below_one (w1.alloc (.cells #[.int .u32 3] 52)) (.cells #[.int .u32 4] 52)
  replace cx := cx.below hb
  replace ca := ca.below hb
  replace hB := hB.trans (hb.mono hB.size)
  clear hb
  have cb := can_lit (w1.alloc (.cells #[.int .u32 3] 52)) (w1.heap.size + 1) 4 4 rfl (by simp) (by omega) (by omega)
  have hb := below_one ((w1.alloc (.cells #[.int .u32 3] 52)).alloc (.cells #[.int .u32 4] 52)) (.cells #[.int .u32 100] 52)
  replace cx := cx.below hb
  replace ca := ca.below hb
  replace cb := cb.below hb
  replace hB := hB.trans (hb.mono hB.size)
  clear hb
  have cm := can_lit ((w1.alloc (.cells #[.int .u32 3] 52)).alloc (.cells #[.int .u32 4] 52)) (w1.heap.size + 1 + 1) 100 100 rfl (by simp) (by omega) (by omega)
  go_wp2_with fail
  refine (mExp_ok ca.num cb.num cm.num ok_b).mono ?_; rintro e w2 ⟨vy, rfl, cy, hb⟩
  replace cx := cx.below hb
  replace ca := ca.below hb
  replace cb := cb.below hb
  replace cm := cm.below hb
  replace hB := hB.trans (hb.mono hB.size)
  clear hb
  clear ca
  clear cb
  clear cm
  have hb := below_one w2 (.cells #[.int .u32 3] 52)
  replace cx := cx.below hb
  replace cy := cy.below hb
  replace hB := hB.trans (hb.mono hB.size)
  clear hb
  have ca := can_lit w2 (w2.heap.size) 3 3 rfl (by simp) (by omega) (by omega)
  have hb := below_one (w2.alloc (.cells #[.int .u32 3] 52)) (.cells #[.int .u32 10] 52)
  replace cx := cx.below hb
  replace cy := cy.below hb
  replace ca := ca.below hb
  replace hB := hB.trans (hb.mono hB.size)
  clear hb
  have cm := can_lit (w2.alloc (.cells #[.int .u32 3] 52)) (w2.heap.size + 1) 10 10 rfl (by simp) (by omega) (by omega)
  go_wp2_with fail
  refine (mInv_ok ca.num cm.num ok_c (by decide)).mono ?_; rintro e w3 ⟨vz, z, rfl, cz, hz1, hz2, hb⟩
  replace cx := cx.below hb
  replace cy := cy.below hb
  replace ca := ca.below hb
  replace cm := cm.below hb
  replace hB := hB.trans (hb.mono hB.size)
  clear hb
  clear ca
  clear cm
  obtain rfl := seven z hz1 hz2
  clear hz1 hz2
  have hb := below_one w3 (.cells #[.int .u32 3] 52)
  replace cx := cx.below hb
  replace cy := cy.below hb
  replace cz := cz.below hb
  replace hB := hB.trans (hb.mono hB.size)
  clear hb
  have ca := can_lit w3 (w3.heap.size) 3 3 rfl (by simp) (by omega) (by omega)
  go_wp2_with fail
  refine (same_yes cx ca (by decide)).mono ?_; rintro e w4 ⟨rfl, hb⟩
  replace cx := cx.below hb.b
  replace cy := cy.below hb.b
  replace cz := cz.below hb.b
  replace ca := ca.below hb.b
  replace hB := hB.trans (hb.b.mono hB.size)
  clear hb
  clear ca
  clear cx
  have hb := below_one w4 (.cells #[.int .u32 81] 52)
  replace cy := cy.below hb
  replace cz := cz.below hb
  replace hB := hB.trans (hb.mono hB.size)
  clear hb
  have ca := can_lit w4 (w4.heap.size) 81 81 rfl (by simp) (by omega) (by omega)
  go_wp2_with fail
  refine (same_yes cy ca (by decide)).mono ?_; rintro e w5 ⟨rfl, hb⟩
  replace cy := cy.below hb.b
  replace cz := cz.below hb.b
  replace ca := ca.below hb.b
  replace hB := hB.trans (hb.b.mono hB.size)
  clear hb
  clear ca
  clear cy
  have hb := below_one w5 (.cells #[.int .u32 7] 52)
  replace cz := cz.below hb
  replace hB := hB.trans (hb.mono hB.size)
  clear hb
  have ca := can_lit w5 (w5.heap.size) 7 7 rfl (by simp) (by omega) (by omega)
  go_wp2_with fail
  refine (same_yes cz ca rfl).mono ?_; rintro e w6 ⟨rfl, hb⟩
  replace cz := cz.below hb.b
  replace ca := ca.below hb.b
  replace hB := hB.trans (hb.b.mono hB.size)
  clear hb
  go_wp2_with fail
  go_ret
  exact ⟨rfl, hB⟩
end Go.Proofs.Ytadldaidbcdaeaa
