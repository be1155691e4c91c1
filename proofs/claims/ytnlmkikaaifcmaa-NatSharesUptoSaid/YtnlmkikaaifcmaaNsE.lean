/- signetlaw6.asked by its contract. (Printed by gen_nse.py.) -/
import Derived.Test.YtnlmkikaaifcmaaNsA
set_option linter.unusedVariables false
set_option linter.unusedSimpArgs false
namespace Go.Proofs.Ytnlmkikaaifcmaa
open Go.RowKit Go.Sg
theorem Dr.bl {w w' : World} (h : Dr w w') : Below w.heap.size w w' := by obtain ⟨n, rfl⟩ := h; exact below_drewN (.refl _ _) n
set_option maxHeartbeats 4000000 in
set_option maxRecDepth 20000 in
theorem asked_c {aa ad : Option Addr} {ca cd k : Nat} {xs ys : List Int} {w : World} (sa : Sl .u32 w aa ca xs) (sd : Sl .u32 w ad cd ys) (ua : U32 xs) (ud : U32 ys) (hx : xs.length ≤ 1048576) (hy : ys.length ≤ 1048576) (hk : k ≤ 1024) :
    Calls Try.prog 10 #[.slice aa xs.length ca, .slice ad ys.length cd, .int .i64 (k : Int)] w (fun e w' => e = .returned (.bool true) ∧ Below w.heap.size w w') := by
  obtain ⟨X, hX⟩ : ∃ X, X = val xs := ⟨_, rfl⟩
  obtain ⟨Y, hY⟩ : ∃ Y, Y = val ys := ⟨_, rfl⟩
  obtain ⟨nx, hnx⟩ : ∃ n, n = xs.length := ⟨_, rfl⟩
  obtain ⟨ny, hny⟩ : ∃ n, n = ys.length := ⟨_, rfl⟩
  have lx1 : nx ≤ 1048576 := by omega
  have ly1 : ny ≤ 1048576 := by omega
  have CA := fun W (h : Sl .u32 W aa ca xs) => copied_c aa ca xs W h (by omega)
  have CD := fun W (h : Sl .u32 W ad cd ys) => copied_c ad cd ys W h (by omega)
  have UA := fun W a c (h : Sl .u32 W a c xs) => Uint_c a c xs W h ua
  have FD := fun W a c (h : Sl .u32 W a c ys) => Fixed_c a c ys (4 * (ys.length : Int) + 1) W h ud (by omega) (by omega)
  have BD := fun W a c (h : Sl .u32 W a c ys) => Bytes_c a c ys W h ud (by omega)
  have CM := fun W a c a' c' (h : Sl .u32 W a c xs) (h' : Sl .u32 W a' c' ys) => Cmp_c a a' c c' xs ys W h h' ua ud
  have BX := fun W a c (h : Sl .u32 W a c xs) => Bits_c a c xs W h ua (by omega)
  have BY := fun W a c (h : Sl .u32 W a c ys) => Bits_c a c ys W h ud (by omega)
  have BT := fun W a c (h : Sl .u32 W a c xs) => Bit_c a c xs (k : Int) W h ua (by omega)
  unfold RowPost at CA CD
  unfold UintPost at UA
  unfold FixedPost at FD
  unfold NBytesPost at BD
  unfold CmpPost at CM
  unfold BoolPost at BT
  obtain ⟨u, hu_⟩ : ∃ u, u = uintV (val xs) := ⟨_, rfl⟩
  obtain ⟨ok, hok⟩ : ∃ u, u = uintB (val xs) := ⟨_, rfl⟩
  obtain ⟨fl, hfl⟩ : ∃ u, u = fixL (val ys) (4 * (ys.length : Int) + 1) := ⟨_, rfl⟩
  obtain ⟨ft, hft⟩ : ∃ u, u = fitB (val ys) (4 * (ys.length : Int) + 1) := ⟨_, rfl⟩
  obtain ⟨bs, hbs⟩ : ∃ u, u = beN (val ys) (blen (val ys)) := ⟨_, rfl⟩
  obtain ⟨cm, hcm⟩ : ∃ u, u = cmpI (val xs) (val ys) := ⟨_, rfl⟩
  obtain ⟨bx, hbx⟩ : ∃ u, u = bl (val xs) := ⟨_, rfl⟩
  obtain ⟨by_, hby⟩ : ∃ u, u = bl (val ys) := ⟨_, rfl⟩
  obtain ⟨bt, hbt⟩ : ∃ u, u = bitB (val xs) (k : Int) := ⟨_, rfl⟩
  rw [← hu_, ← hok] at UA
  rw [← hfl, ← hft] at FD
  rw [← hbs] at BD
  rw [← hcm] at CM
  rw [← hbx] at BX
  rw [← hby] at BY
  rw [← hbt] at BT
  rw [← hnx] at CA UA CM BX BT ⊢
  rw [← hny] at CD FD BD CM BY ⊢
  have HX := Lib.hid hnx
  have HY := Lib.hid hny
  have e1 : (u != u) = false := by simp
  have e2 : (ok != ok) = false := by simp
  have e3 : (ft != ft) = false := by simp
  have e4 : (cm == cm) = true := by simp
  have e5 : ((bx : Int) == (bx : Int)) = true := by simp
  have e6 : (bt == bt) = true := by simp
  have e7 : ((by_ : Int) == (by_ : Int)) = true := by simp
  clear hX hY hnx hny hu_ hok hfl hft hbs hcm hbx hby hbt hx hy
  have hB := Below.refl w.heap.size w
  go_enter Try.func10, Try.ntmps10
  go_wp2_with fail
  refine (CA _ (sa.below hB)).mono ?_; rintro e_ w1 ⟨v1, rfl, n1, hb⟩
  obtain ⟨a1, c1, rfl, s1⟩ := n1.sl
  rw [← HX.out]
  clear n1
  replace hB := hB.trans (hb.mono hB.size)
  clear hb
  go_wp2_with fail
  refine (CD _ (sd.below hB)).mono ?_; rintro e_ w2 ⟨v2, rfl, n2, hb⟩
  obtain ⟨a2, c2, rfl, s2⟩ := n2.sl
  rw [← HY.out]
  clear n2
  replace s1 := s1.below hb
  replace hB := hB.trans (hb.mono hB.size)
  clear hb
  go_wp2_with fail
  refine (UA _ _ _ (sa.below hB)).mono ?_; rintro e_ w_ ⟨rfl, rfl⟩
  go_wp2_with fail
  refine (UA _ _ _ s1).mono ?_; rintro e_ w_ ⟨rfl, rfl⟩
  go_wp2_with fail
  refine (FD _ _ _ (sd.below hB)).mono ?_; rintro e_ w3 ⟨v3, rfl, n3, hb⟩
  obtain ⟨a3, c3, rfl, s3⟩ := n3.sl
  clear n3
  replace s1 := s1.below hb
  replace s2 := s2.below hb
  replace hB := hB.trans (hb.mono hB.size)
  clear hb
  go_wp2_with fail
  refine (FD _ _ _ s2).mono ?_; rintro e_ w4 ⟨v4, rfl, n4, hb⟩
  obtain ⟨a4, c4, rfl, s4⟩ := n4.sl
  clear n4
  replace s1 := s1.below hb
  replace s2 := s2.below hb
  replace s3 := s3.below hb
  replace hB := hB.trans (hb.mono hB.size)
  clear hb
  have h_ := sameBytes_c _ _ _ _ fl fl _ s3 s4
  rw [decide_eq_true rfl] at h_
  go_wp2_with fail
  refine (h_).mono ?_; rintro e_ w5 ⟨rfl, hd_⟩
  have hb := Dr.bl hd_
  clear hd_ h_
  replace s1 := s1.below hb
  replace s2 := s2.below hb
  replace s3 := s3.below hb
  replace s4 := s4.below hb
  replace hB := hB.trans (hb.mono hB.size)
  clear hb
  go_wp2_with fail
  refine (BD _ _ _ (sd.below hB)).mono ?_; rintro e_ w6 ⟨v5, rfl, n5, hb⟩
  obtain ⟨a5, c5, rfl, s5⟩ := n5.sl
  clear n5
  replace s1 := s1.below hb
  replace s2 := s2.below hb
  replace s3 := s3.below hb
  replace s4 := s4.below hb
  replace hB := hB.trans (hb.mono hB.size)
  clear hb
  go_wp2_with fail
  refine (BD _ _ _ s2).mono ?_; rintro e_ w7 ⟨v6, rfl, n6, hb⟩
  obtain ⟨a6, c6, rfl, s6⟩ := n6.sl
  clear n6
  replace s1 := s1.below hb
  replace s2 := s2.below hb
  replace s3 := s3.below hb
  replace s4 := s4.below hb
  replace s5 := s5.below hb
  replace hB := hB.trans (hb.mono hB.size)
  clear hb
  have h_ := sameBytes_c _ _ _ _ bs bs _ s5 s6
  rw [decide_eq_true rfl] at h_
  go_wp2_with fail
  refine (h_).mono ?_; rintro e_ w8 ⟨rfl, hd_⟩
  have hb := Dr.bl hd_
  clear hd_ h_
  replace s1 := s1.below hb
  replace s2 := s2.below hb
  replace s3 := s3.below hb
  replace s4 := s4.below hb
  replace s5 := s5.below hb
  replace s6 := s6.below hb
  replace hB := hB.trans (hb.mono hB.size)
  clear hb
  clear s3
  clear s4
  clear s5
  clear s6
  go_wp2_with fail
  refine (CM _ _ _ _ _ (sa.below hB) (sd.below hB)).mono ?_; rintro e_ w9 ⟨rfl, hd_⟩
  have hb := Dr.bl hd_
  clear hd_
  replace s1 := s1.below hb
  replace s2 := s2.below hb
  replace hB := hB.trans (hb.mono hB.size)
  clear hb
  go_wp2_with fail
  refine (CM _ _ _ _ _ s1 s2).mono ?_; rintro e_ w10 ⟨rfl, hd_⟩
  have hb := Dr.bl hd_
  clear hd_
  replace s1 := s1.below hb
  replace s2 := s2.below hb
  replace hB := hB.trans (hb.mono hB.size)
  clear hb
  go_wp2_with fail
  refine (BX _ _ _ (sa.below hB)).mono ?_; rintro e_ w_ ⟨rfl, rfl⟩
  go_wp2_with fail
  refine (BX _ _ _ s1).mono ?_; rintro e_ w_ ⟨rfl, rfl⟩
  go_wp2_with fail
  refine (BT _ _ _ (sa.below hB)).mono ?_; rintro e_ w11 ⟨rfl, hd_⟩
  have hb := Dr.bl hd_
  clear hd_
  replace s1 := s1.below hb
  replace s2 := s2.below hb
  replace hB := hB.trans (hb.mono hB.size)
  clear hb
  go_wp2_with fail
  refine (BT _ _ _ s1).mono ?_; rintro e_ w12 ⟨rfl, hd_⟩
  have hb := Dr.bl hd_
  clear hd_
  replace s1 := s1.below hb
  replace s2 := s2.below hb
  replace hB := hB.trans (hb.mono hB.size)
  clear hb
  go_wp2_with fail
  refine (BY _ _ _ (sd.below hB)).mono ?_; rintro e_ w_ ⟨rfl, rfl⟩
  go_wp2_with fail
  refine (BY _ _ _ s2).mono ?_; rintro e_ w_ ⟨rfl, rfl⟩
  go_wp2_with fail
  go_ret
  exact ⟨by first | done | rfl | simp, hB⟩
end Go.Proofs.Ytnlmkikaaifcmaa
