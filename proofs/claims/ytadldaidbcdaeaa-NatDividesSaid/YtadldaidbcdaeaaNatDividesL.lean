/- signetlaw6.NatDivides, its walk. -/
import Derived.Test.YtadldaidbcdaeaaRefH
set_option linter.unusedVariables false
set_option linter.unusedSimpArgs false
namespace Go.Proofs.Ytadldaidbcdaeaa
open Go.RowKit Go.Sg

set_option maxHeartbeats 4000000 in
set_option maxRecDepth 100000 in
theorem NatDivides_c (a a' : Option Addr) (cap cap' : Nat) (xs ys : List Int) (w : World) (hx : Sl .u32 w a cap xs) (hy : Sl .u32 w a' cap' ys) (ux : U32 xs) (uy : U32 ys) (hl : xs.length * 4 ≤ 140737488351232) (hl' : ys.length * 4 ≤ 140737488351232) :
    Calls Try.prog 6 #[.slice a xs.length cap, .slice a' ys.length cap'] w (TruePost w) := by
  go_enter Try.func6, Try.ntmps6
  have hB := Below.refl w.heap.size w
  go_wp2_with fail
  refine (copied_c _ _ _ _ hx (by omega)).mono ?_; rintro e w1 ⟨v1, rfl, hn, hb⟩
  replace hx := hx.below hb
  replace hy := hy.below hb
  replace hB := hB.trans (hb.mono hB.size)
  clear hb
  obtain ⟨ax, cx, rfl, sx⟩ := hn.sl
  clear hn
  go_wp2_with fail
  refine (copied_c _ _ _ _ hy (by omega)).mono ?_; rintro e w2 ⟨v1, rfl, hn, hb⟩
  replace hx := hx.below hb
  replace hy := hy.below hb
  replace sx := sx.below hb
  replace hB := hB.trans (hb.mono hB.size)
  clear hb
  obtain ⟨ay, cy, rfl, sy⟩ := hn.sl
  clear hn
  go_wp2_with fail
  refine (DivMod_c _ _ _ _ _ _ _ sx sy ux uy (by omega) (by omega)).mono ?_; intro e w3 hp
  obtain ⟨adQ, cpQ, zQ, adR, cpR, zR, rfl, sQ, nQ, uQ, sR, nR, uR, hvQ, hwQ, hb⟩ := hp.sl
  clear hp
  obtain ⟨er, her⟩ : ∃ er : Int, er = if val ys = 0 then 60 else 0 := ⟨_, rfl⟩
  rw [← her]
  have HER := Lib.hid her
  clear her
  replace hx := hx.below hb
  replace hy := hy.below hb
  replace sx := sx.below hb
  replace sy := sy.below hb
  replace hB := hB.trans (hb.mono hB.size)
  clear hb
  go_wp2_with fail
  refine (rDivMod_c _ _ _ _ _ _ _ hx hy ux uy (by omega) (by omega)).mono ?_; intro e w4 hp
  obtain ⟨adU, cpU, zU, adV, cpV, zV, rfl, sU, nU, uU, sV, nV, uV, hvU, hwU, hb⟩ := hp
  rw [← HER.out]
  replace hx := hx.below hb
  replace hy := hy.below hb
  replace sx := sx.below hb
  replace sy := sy.below hb
  replace sQ := sQ.below hb
  replace sR := sR.below hb
  replace hB := hB.trans (hb.mono hB.size)
  clear hb
  have eq : Hid (zQ = zU ∧ zR = zV) := Lib.hid (by
    rcases Nat.eq_zero_or_pos (val ys) with h | h
    · obtain ⟨rfl, rfl⟩ := hwQ h
      obtain ⟨rfl, rfl⟩ := hwU h
      exact ⟨rfl, rfl⟩
    · obtain ⟨h1, h2⟩ := hvQ h
      obtain ⟨h3, h4⟩ := hvU h
      exact ⟨nQ.ext nU uQ uU (by rw [h1, h3]), nR.ext nV uR uV (by rw [h2, h4])⟩)
  clear hvQ hwQ hvU hwU
  have hee : (er == er) = true := by simp
  go_wp2_with fail
  refine (rSame_c _ _ _ _ _ _ _ sQ sU).mono ?_; rintro e w5 ⟨rfl, hb⟩
  replace hx := hx.below hb.b
  replace hy := hy.below hb.b
  replace sx := sx.below hb.b
  replace sy := sy.below hb.b
  replace sQ := sQ.below hb.b
  replace sR := sR.below hb.b
  replace sU := sU.below hb.b
  replace sV := sV.below hb.b
  replace hB := hB.trans (hb.b.mono hB.size)
  clear hb
  rw [show decide (zQ = zU) = true from decide_eq_true eq.out.1]
  go_wp2_with fail
  refine (rSame_c _ _ _ _ _ _ _ sR sV).mono ?_; rintro e w6 ⟨rfl, hb⟩
  replace hx := hx.below hb.b
  replace hy := hy.below hb.b
  replace sx := sx.below hb.b
  replace sy := sy.below hb.b
  replace sQ := sQ.below hb.b
  replace sR := sR.below hb.b
  replace sU := sU.below hb.b
  replace sV := sV.below hb.b
  replace hB := hB.trans (hb.b.mono hB.size)
  clear hb
  rw [show decide (zR = zV) = true from decide_eq_true eq.out.2]
  go_wp2_with fail
  refine (rSame_c _ _ _ _ _ _ _ sx hx).mono ?_; rintro e w7 ⟨rfl, hb⟩
  replace hx := hx.below hb.b
  replace hy := hy.below hb.b
  replace sx := sx.below hb.b
  replace sy := sy.below hb.b
  replace sQ := sQ.below hb.b
  replace sR := sR.below hb.b
  replace sU := sU.below hb.b
  replace sV := sV.below hb.b
  replace hB := hB.trans (hb.b.mono hB.size)
  clear hb
  rw [show decide (xs = xs) = true from decide_eq_true rfl]
  go_wp2_with fail
  refine (rSame_c _ _ _ _ _ _ _ sy hy).mono ?_; rintro e w8 ⟨rfl, hb⟩
  replace hx := hx.below hb.b
  replace hy := hy.below hb.b
  replace sx := sx.below hb.b
  replace sy := sy.below hb.b
  replace sQ := sQ.below hb.b
  replace sR := sR.below hb.b
  replace sU := sU.below hb.b
  replace sV := sV.below hb.b
  replace hB := hB.trans (hb.b.mono hB.size)
  clear hb
  rw [show decide (ys = ys) = true from decide_eq_true rfl]
  go_wp2_with fail
  go_ret
  exact ⟨rfl, hB⟩
end Go.Proofs.Ytadldaidbcdaeaa
