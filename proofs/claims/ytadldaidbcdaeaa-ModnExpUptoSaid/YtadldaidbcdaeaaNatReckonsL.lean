/- signetlaw6.NatReckons, its walk. -/
import Derived.Test.YtadldaidbcdaeaaRefF
import Derived.Test.YtadldaidbcdaeaaOpen
set_option linter.unusedVariables false
set_option linter.unusedSimpArgs false
namespace Go.Proofs.Ytadldaidbcdaeaa
open Go.RowKit Go.Sg

theorem NatRes.sl {B : Nat} {w : World} {v : Value} {n : Nat} (h : NatRes B w v n) : ∃ a c zs, v = .slice a zs.length c ∧ Sl .u32 w a c zs ∧ Canon zs ∧ U32 zs ∧ val zs = n := by
  obtain ⟨zs, hn, c, u, hv⟩ := h
  obtain ⟨a, cp, he, hs⟩ := hn.sl
  exact ⟨a, cp, zs, he, hs, c, u, hv⟩
/-- What Sub hands back, as a slice that is read. -/
theorem SubPost.sl {m n : Nat} {w : World} {e : Ending} {w' : World} (h : SubPost m n w e w') :
    ∃ a c zs, e = .returned (.tuple #[.slice a zs.length c, .bool (decide (n ≤ m))]) ∧ Sl .u32 w' a c zs ∧ Canon zs ∧ U32 zs ∧ val zs = m - n ∧ Below w.heap.size w w' := by
  by_cases hh : n ≤ m
  · obtain ⟨v, rfl, hr⟩ := h.1 hh
    obtain ⟨a, c, zs, rfl, hs, cz, uz, hv⟩ := hr.sl
    exact ⟨a, c, zs, by rw [decide_eq_true hh], hs, cz, uz, hv, h.2.2⟩
  · refine ⟨none, 0, [], ?_, .nil _ _ _ _ (by omega), .nil, .nil (by omega), by rw [val_nil]; omega, h.2.2⟩
    rw [h.2.1 (by omega), decide_eq_false hh]; rfl
theorem same_val {xs ys : List Int} (cx : Canon xs) (cy : Canon ys) (ux : U32 xs) (uy : U32 ys) (h : val xs = val ys) : decide (xs = ys) = true := decide_eq_true (cx.ext cy ux uy h)
theorem Dr.b {w w' : World} (h : Dr w w') : Below w.heap.size w w' := h.below

set_option maxHeartbeats 4000000 in
set_option maxRecDepth 100000 in
theorem NatReckons_c (a a' : Option Addr) (cap cap' : Nat) (xs ys : List Int) (w : World) (hx : Sl .u32 w a cap xs) (hy : Sl .u32 w a' cap' ys) (ux : U32 xs) (uy : U32 ys) (hl : xs.length + ys.length ≤ 1048576) :
    Calls Try.prog 4 #[.slice a xs.length cap, .slice a' ys.length cap'] w (TruePost w) := by
  go_enter Try.func4, Try.ntmps4
  have hB := Below.refl w.heap.size w
  go_wp2_with fail
  refine (copied_c _ _ _ _ hx (by omega)).mono ?_; rintro e w1 ⟨v1, rfl, hn, hb⟩
  replace hx := hx.below hb
  replace hy := hy.below hb
  replace hB := hB.trans (hb.mono hB.size)
  obtain ⟨ax, cx, rfl, sx⟩ := hn.sl
  clear hn
  clear hb
  go_wp2_with fail
  refine (copied_c _ _ _ _ hy (by omega)).mono ?_; rintro e w2 ⟨v1, rfl, hn, hb⟩
  replace hx := hx.below hb
  replace hy := hy.below hb
  replace sx := sx.below hb
  replace hB := hB.trans (hb.mono hB.size)
  obtain ⟨ay, cy, rfl, sy⟩ := hn.sl
  clear hn
  clear hb
  go_wp2_with fail
  refine (Add_c _ _ _ _ _ _ _ sx sy ux uy (by omega) (by omega)).mono ?_; rintro e w3 ⟨v1, rfl, hn, hb⟩
  replace hx := hx.below hb
  replace hy := hy.below hb
  replace sx := sx.below hb
  replace sy := sy.below hb
  replace hB := hB.trans (hb.mono hB.size)
  obtain ⟨as_, cs, zs, rfl, ss, cans, us, hvs⟩ := hn.sl
  clear hn
  replace hvs := Lib.hid hvs
  clear hb
  go_wp2_with fail
  refine (Sub_c _ _ _ _ _ _ _ sx sy ux uy (by omega) (by omega)).mono ?_; rintro e w4 hp
  obtain ⟨ad, cd, zd, rfl, sd, cand, ud, hvd, hb⟩ := hp.sl
  clear hp
  replace hvd := Lib.hid hvd
  replace hx := hx.below hb
  replace hy := hy.below hb
  replace sx := sx.below hb
  replace sy := sy.below hb
  replace ss := ss.below hb
  replace hB := hB.trans (hb.mono hB.size)
  clear hb
  go_wp2_with fail
  refine (Mul_c _ _ _ _ _ _ _ sx sy ux uy (by omega) (by omega)).mono ?_; rintro e w5 ⟨v1, rfl, hn, hb⟩
  replace hx := hx.below hb
  replace hy := hy.below hb
  replace sx := sx.below hb
  replace sy := sy.below hb
  replace ss := ss.below hb
  replace sd := sd.below hb
  replace hB := hB.trans (hb.mono hB.size)
  obtain ⟨ap, cp, zp, rfl, sp, canp, up, hvp⟩ := hn.sl
  clear hn
  replace hvp := Lib.hid hvp
  clear hb
  go_wp2_with fail
  refine (Cmp_c _ _ _ _ _ _ _ sx sy ux uy).mono ?_; rintro e w6 ⟨rfl, hb⟩
  replace hx := hx.below hb.b
  replace hy := hy.below hb.b
  replace sx := sx.below hb.b
  replace sy := sy.below hb.b
  replace ss := ss.below hb.b
  replace sd := sd.below hb.b
  replace sp := sp.below hb.b
  replace hB := hB.trans (hb.b.mono hB.size)
  clear hb
  go_wp2_with fail
  refine (rSub_c _ _ _ _ _ _ _ hx hy ux uy (by omega) (by omega)).mono ?_; rintro e w7 hp
  obtain ⟨at_, ct, zt, rfl, st, cant, ut, hvt, hb⟩ := hp.sl
  clear hp
  replace hvt := Lib.hid hvt
  replace hx := hx.below hb
  replace hy := hy.below hb
  replace sx := sx.below hb
  replace sy := sy.below hb
  replace ss := ss.below hb
  replace sd := sd.below hb
  replace sp := sp.below hb
  replace hB := hB.trans (hb.mono hB.size)
  clear hb
  go_wp2_with fail
  refine (rAdd_c _ _ _ _ _ _ _ hx hy ux uy (by omega) (by omega)).mono ?_; rintro e w8 ⟨v1, rfl, hn, hb⟩
  replace hx := hx.below hb
  replace hy := hy.below hb
  replace sx := sx.below hb
  replace sy := sy.below hb
  replace ss := ss.below hb
  replace sd := sd.below hb
  replace sp := sp.below hb
  replace st := st.below hb
  replace hB := hB.trans (hb.mono hB.size)
  obtain ⟨a1, c1, z1, rfl, s1, can1, u1, hv1⟩ := hn.sl
  clear hn
  replace hv1 := Lib.hid hv1
  clear hb
  go_wp2_with fail
  refine (rSame_c _ _ _ _ _ _ _ ss s1).mono ?_; rintro e w9 ⟨rfl, hb⟩
  replace hx := hx.below hb.b
  replace hy := hy.below hb.b
  replace sx := sx.below hb.b
  replace sy := sy.below hb.b
  replace ss := ss.below hb.b
  replace sd := sd.below hb.b
  replace sp := sp.below hb.b
  replace st := st.below hb.b
  replace s1 := s1.below hb.b
  replace hB := hB.trans (hb.b.mono hB.size)
  clear hb
  rw [same_val cans can1 us u1 (by rw [hvs.out, hv1.out])]
  clear ss s1
  go_wp2_with fail
  refine (rSame_c _ _ _ _ _ _ _ sd st).mono ?_; rintro e w10 ⟨rfl, hb⟩
  replace hx := hx.below hb.b
  replace hy := hy.below hb.b
  replace sx := sx.below hb.b
  replace sy := sy.below hb.b
  replace sd := sd.below hb.b
  replace sp := sp.below hb.b
  replace st := st.below hb.b
  replace hB := hB.trans (hb.b.mono hB.size)
  clear hb
  rw [same_val cand cant ud ut (by rw [hvd.out, hvt.out])]
  clear sd st
  go_wp2_with fail
  refine (rMul_c _ _ _ _ _ _ _ hx hy ux uy (by omega)).mono ?_; rintro e w11 ⟨v1, rfl, hn, hb⟩
  replace hx := hx.below hb
  replace hy := hy.below hb
  replace sx := sx.below hb
  replace sy := sy.below hb
  replace sp := sp.below hb
  replace hB := hB.trans (hb.mono hB.size)
  obtain ⟨a1, c1, z1, rfl, s1, can1, u1, hv1⟩ := hn.sl
  clear hn
  replace hv1 := Lib.hid hv1
  clear hb
  go_wp2_with fail
  refine (rSame_c _ _ _ _ _ _ _ sp s1).mono ?_; rintro e w12 ⟨rfl, hb⟩
  replace hx := hx.below hb.b
  replace hy := hy.below hb.b
  replace sx := sx.below hb.b
  replace sy := sy.below hb.b
  replace sp := sp.below hb.b
  replace s1 := s1.below hb.b
  replace hB := hB.trans (hb.b.mono hB.size)
  clear hb
  rw [same_val canp can1 up u1 (by rw [hvp.out, hv1.out])]
  clear sp s1
  go_wp2_with fail
  refine (rSame_c _ _ _ _ _ _ _ sx hx).mono ?_; rintro e w13 ⟨rfl, hb⟩
  replace hx := hx.below hb.b
  replace hy := hy.below hb.b
  replace sx := sx.below hb.b
  replace sy := sy.below hb.b
  replace hB := hB.trans (hb.b.mono hB.size)
  clear hb
  rw [show decide (xs = xs) = true from decide_eq_true rfl]
  go_wp2_with fail
  refine (rSame_c _ _ _ _ _ _ _ sy hy).mono ?_; rintro e w14 ⟨rfl, hb⟩
  replace hx := hx.below hb.b
  replace hy := hy.below hb.b
  replace sx := sx.below hb.b
  replace sy := sy.below hb.b
  replace hB := hB.trans (hb.b.mono hB.size)
  clear hb
  rw [show decide (ys = ys) = true from decide_eq_true rfl]
  obtain ⟨ok, hok⟩ : ∃ ok, ok = decide (val ys ≤ val xs) := ⟨_, rfl⟩
  rw [← hok]
  have g1 : (ok == ok) = true := by simp
  clear hok
  go_wp2_with fail
  refine (rCmp_c _ _ _ _ _ _ _ hx hy ux uy).mono ?_; rintro e w' ⟨rfl, rfl⟩
  have g2 : (cmpI (val xs) (val ys) == cmpI (val xs) (val ys)) = true := by simp
  generalize cmpI (val xs) (val ys) = cc at *
  go_wp2_with fail
  go_ret
  exact ⟨rfl, hB⟩
end Go.Proofs.Ytadldaidbcdaeaa