/- signetlaw9.RsaKeys, its walk. -/
import Derived.Test.YtadldaidbcdaeaaLawNineC
import Derived.Test.YtadldaidbcdaeaaOpen
set_option linter.unusedVariables false
set_option linter.unusedSimpArgs false
namespace Go.Proofs.Ytadldaidbcdaeaa
open Go.RowKit Go.Sg

theorem take_marks (xs ys : List Int) : (xs ++ ys).take xs.length = xs := List.take_left


set_option maxHeartbeats 4000000 in
set_option maxRecDepth 100000 in
theorem RsaKeys_c (a a' : Option Addr) (cap cap' : Nat) (ns es : List Int) (w : World) (hx : Sl .u8 w a cap ns) (hy : Sl .u8 w a' cap' es) (ux : U8 ns) (uy : U8 es) (hl : ns.length ≤ 140737488351232) (hl' : es.length ≤ 140737488351232) :
    Calls Try.prog 3 #[.slice a ns.length cap, .slice a' es.length cap'] w (TruePost w) := by
  go_enter Try.func3, Try.ntmps3
  go_wp2_with fail
  refine (lent_c _ _ _ _ hx (by omega)).mono ?_; rintro e w1 ⟨g1, p1, rfl, hg1, hp1, hb1⟩
  have hx1 := hx.below hb1
  have hy1 := hy.below hb1
  go_wp2_with fail
  refine (lent_c _ _ _ _ hy1 (by omega)).mono ?_; rintro e w2 ⟨g2, p2, rfl, hg2, hp2, hb2⟩
  have hx2 := hx1.below hb2
  have hy2 := hy1.below hb2
  have hp12 := hp1.keep hb2
  have hne : g1 ≠ g2 := by have := hp1.lt; omega
  have hB2 := hb1.trans (hb2.mono hb1.size)
  have hg2' : w.heap.size ≤ g2 := by have := hb1.size; omega
  clear hx1 hy1 hp1 hb1 hb2 hg2
  have sx := (hp12.take ns.length).sl
  have sy := (hp2.take es.length).sl
  rw [take_marks] at sx sy
  go_wp2_with fail
  refine (Key_c _ _ _ _ _ _ _ sx sy ux uy (by omega) (by omega)).mono ?_; rintro e w3 ⟨rfl, hb3⟩
  have hx3 := hx2.below hb3
  have hy3 := hy2.below hb3
  have hp13 := hp12.keep hb3
  have hp23 := hp2.keep hb3
  have hB3 := hB2.trans (hb3.mono hB2.size)
  clear hx2 hy2 hp12 hp2 hB2 hb3 sx sy
  go_wp2_with fail
  refine (rKey_c _ _ _ _ _ _ _ hx3 hy3 ux uy (by omega) (by omega)).mono ?_; rintro e w4 ⟨rfl, hb4⟩
  have hx4 := hx3.below hb4
  have hy4 := hy3.below hb4
  have hp14 := hp13.keep hb4
  have hp24 := hp23.keep hb4
  have hB4 := hB3.trans (hb4.mono hB3.size)
  clear hx3 hy3 hp13 hp23 hB3 hb4
  go_wp2_with fail
  refine (still_c _ _ _ _ _ _ hp14 hx4).mono ?_; rintro e w5 ⟨rfl, hd5⟩
  have hp25 := hp24.keep hd5.below
  have hp15 := hp14.keep hd5.below
  have hy5 := hy4.below hd5.below
  have hB5 := hB4.trans hd5.belowB
  clear hx4 hy4 hp24 hp14 hB4 hd5
  go_wp2_with fail
  refine (still_c _ _ _ _ _ _ hp25 hy5).mono ?_; rintro e w6 ⟨rfl, hd6⟩
  have hp26 := hp25.keep hd6.below
  have hp16 := hp15.keep hd6.below
  have hB6 := hB5.trans hd6.belowB
  clear hy5 hp25 hp15 hB5 hd6
  go_wp2_with fail
  refine (turned_c _ _ _ _ _ hp16 ux).mono ?_; rintro e w7 ⟨rfl, us, hul, uu, hp17, hgr7⟩
  have hp27 := hp26.grown hgr7 (by simp; omega)
  have hB7 := hB6.grown hgr7 hB6.size (by simp; omega)
  have HUL := Lib.hid hul
  clear hp26 hp16 hB6 hgr7 hul
  go_wp2_with fail
  refine (turned_c _ _ _ _ _ hp27 uy).mono ?_; rintro e w8 ⟨rfl, vs, hvl, uv, hp28, hgr8⟩
  have hp18 := hp17.grown hgr8 (by simp; omega)
  have hB8 := hB7.grown hgr8 hB7.size (by simp; omega)
  have HVL := Lib.hid hvl
  clear hp27 hp17 hB7 hgr8 hvl
  have su := (hp18.take us.length).sl
  have sv := (hp28.take vs.length).sl
  rw [take_marks] at su sv
  go_wp2_with (at_builtin; refine wpList_append_new _ rfl (.tmp 39) (.tmp 40) 22 rfl w8.heap.size 5 .u8 1 Try.underlying22 info8 _ [] rfl (New.nil _ _ _ _) _ _ _ us rfl HUL.out.symm su.cells (by have := HUL.out; simp; omega) (by have := HUL.out; simp; omega) (Nat.le_refl _) ?_)
  intro v1 w9 hn1 hg9 ho1
  have hb9 : Below w8.heap.size w8 w9 := (Below.refl _ _).grown hg9 (Nat.le_refl _) fun g hg => by simp [Value.ownBlock] at hg
  have hB9 := hB8.trans (hb9.mono hB8.size)
  have su := su.below hb9
  have sv := sv.below hb9
  have hp19 := hp18.keep hb9
  have hp29 := hp28.keep hb9
  clear hg9 hb9 hB8 hp18 hp28 ho1
  go_wp2_with (at_builtin; refine wpList_append_new _ rfl (.tmp 42) (.tmp 43) 22 rfl w9.heap.size 5 .u8 1 Try.underlying22 info8 _ [] rfl (New.nil _ _ _ _) _ _ _ vs rfl HVL.out.symm sv.cells (by have := HVL.out; simp; omega) (by have := HVL.out; simp; omega) (Nat.le_refl _) ?_)
  intro v2 w10 hn2 hg10 ho2
  have hb10 : Below w9.heap.size w9 w10 := (Below.refl _ _).grown hg10 (Nat.le_refl _) fun g hg => by simp [Value.ownBlock] at hg
  have hB10 := hB9.trans (hb10.mono hB9.size)
  have su := su.below hb10
  have sv := sv.below hb10
  have hpA := hp19.keep hb10
  have hpB := hp29.keep hb10
  have hn1 := hn1.keep hb10
  clear hg10 hb10 hB9 hp19 hp29 ho2
  obtain ⟨b1, q1, rfl, s1⟩ := hn1.sl
  obtain ⟨b2, q2, rfl, s2⟩ := hn2.sl
  have k1 := Key_c _ _ _ _ _ _ _ su sv uu uv (by have := HUL.out; omega) (by have := HVL.out; omega)
  rw [HUL.out, HVL.out] at k1
  clear hn1 hn2
  go_wp2_with fail
  refine k1.mono ?_; rintro e w11 ⟨rfl, hb11⟩
  have hB11 := hB10.trans (hb11.mono hB10.size)
  have s1 := s1.below hb11
  have s2 := s2.below hb11
  have hpA := hpA.keep hb11
  have hpB := hpB.keep hb11
  clear su sv k1 hb11 hB10
  go_wp2_with fail
  refine (rKey_c _ _ _ _ _ _ _ s1 s2 uu uv (by have := HUL.out; omega) (by have := HVL.out; omega)).mono ?_; rintro e w12 ⟨rfl, hb12⟩
  have hB12 := hB11.trans (hb12.mono hB11.size)
  have s1 := s1.below hb12
  have s2 := s2.below hb12
  have hpA := hpA.keep hb12
  have hpB := hpB.keep hb12
  clear hb12 hB11
  have k2 := still_c _ _ _ _ _ _ hpA s1
  rw [show (Value.slice (some ⟨g1, 0, none⟩) us.length p1) = Value.slice (some ⟨g1, 0, none⟩) ns.length p1 by rw [HUL.out]] at k2
  go_wp2_with fail
  refine k2.mono ?_; rintro e w13 ⟨rfl, hd13⟩
  have hB13 := hB12.trans hd13.belowB
  have s2 := s2.below hd13.below
  have hpB := hpB.keep hd13.below
  clear hB12 hd13 k2 hpA
  have k3 := still_c _ _ _ _ _ _ hpB s2
  rw [show (Value.slice (some ⟨g2, 0, none⟩) vs.length p2) = Value.slice (some ⟨g2, 0, none⟩) es.length p2 by rw [HVL.out]] at k3
  go_wp2_with fail
  refine k3.mono ?_; rintro e w14 ⟨rfl, hd14⟩
  have hB14 := hB13.trans hd14.belowB
  clear hB13 hd14 k3 hpB
  go_wp2_with fail
  refine (rekeyed_c _).mono ?_; rintro e w15 ⟨rfl, hb15⟩
  have hB15 := hB14.trans (hb15.mono hB14.size)
  go_wp2_with fail
  go_ret
  exact ⟨rfl, hB15⟩
end Go.Proofs.Ytadldaidbcdaeaa
