import Derived.Test.YtlolkighnnedfaaGreatDoorZ44
import Derived.Test.YtlolkighnnedfaaGreatDoorZ33
/- signetlaw13.EdVerifies by its contract. (Printed by gen_edverifies.py.) -/
set_option linter.unusedVariables false
set_option linter.unusedSimpArgs false
namespace Go.Proofs.YtlolkighnnedfaaGreatDoor
open Go.RowKit Go.Sg
theorem xor_u8_r (x y : Int) : 0 ≤ bits .xor .u8 x y ∧ bits .xor .u8 x y ≤ 255 := by
  unfold bits
  simp only [IntKind.wrap_u8']
  omega

set_option maxHeartbeats 4000000 in
set_option maxRecDepth 20000 in
theorem EdVerifies_c {a0 a1 a2 : Option Addr} {c0 c1 c2 : Nat} {x0 x1 x2 : List Int} {w : World} (s0 : Sl .u8 w a0 c0 x0) (s1 : Sl .u8 w a1 c1 x1) (s2 : Sl .u8 w a2 c2 x2) (u0 : U8 x0) (u1 : U8 x1) (u2 : U8 x2) (hz : x0.length + x1.length + x2.length ≤ 1048576) (tP : TabAt w 4 limbP) (tD : TabAt w 8 limbD) (tI : TabAt w 12 limbI) (tL : TabAt w 0 limbL) (tB : BaseT w 1) (ht : ShaTabs w) (hr : RefTabs w) :
    Calls Tryz.prog 3 #[.slice a0 x0.length c0, .slice a1 x1.length c1, .slice a2 x2.length c2] w (fun e w' => e = .returned (.bool true) ∧ Below w.heap.size w w') := by
  have m0 : x0.length ≤ 1048576 := by omega
  have m1 : x1.length ≤ 1048576 := by omega
  have m2 : x2.length ≤ 1048576 := by omega
  clear hz
  have rm0 := fun W (h : Below w.heap.size w W) => roomy13_c a0 c0 x0 W (s0.below h) (by omega)
  have sp0 := fun g W (k : Blk W g .u8 5 (x0 ++ mb9)) (h : Below w.heap.size w W) => spared13_c g a0 c0 x0 W k (s0.below h) (by omega)
  have rm1 := fun W (h : Below w.heap.size w W) => roomy13_c a1 c1 x1 W (s1.below h) (by omega)
  have sp1 := fun g W (k : Blk W g .u8 5 (x1 ++ mb9)) (h : Below w.heap.size w W) => spared13_c g a1 c1 x1 W k (s1.below h) (by omega)
  have rm2 := fun W (h : Below w.heap.size w W) => roomy13_c a2 c2 x2 W (s2.below h) (by omega)
  have sp2 := fun g W (k : Blk W g .u8 5 (x2 ++ mb9)) (h : Below w.heap.size w W) => spared13_c g a2 c2 x2 W k (s2.below h) (by omega)
  unfold Room13 at rm0 rm1 rm2
  have VE := fun (m : List Int) (um : U8 m) (lm : m.length ≤ 1048576) g0 g1 g2 W (k0 : Blk W g0 .u8 5 (x0 ++ mb9)) (k1 : Blk W g1 .u8 5 (m ++ mb9)) (k2 : Blk W g2 .u8 5 (x2 ++ mb9)) (h : Below w.heap.size w W) =>
    Verify_c (room_sl k0 (by omega)) (room_sl k1 (by omega)) (room_sl k2 (by omega)) u0 um u2 (by omega) (by omega) (by omega) (tP.below h) (tD.below h) (tI.below h) (tL.below h) (tB.below h) (ht.below h)
  have RV := fun (m : List Int) (um : U8 m) (lm : m.length ≤ 1048576) a c W (sm : Sl .u8 W a c m) (h : Below w.heap.size w W) =>
    rVerify_c (s0.below h) sm (s2.below h) u0 um u2 (by omega) (by omega) (by omega) (hr.below h)
  have V1 := VE x1 u1 m1
  have R1 := fun W (h : Below w.heap.size w W) => RV x1 u1 m1 a1 c1 W (s1.below h) h
  have V2 := fun y (hy : 0 ≤ y ∧ y ≤ 255) => VE (x1.set 0 y) (u1.set 0 hy.1 hy.2) (by rw [List.length_set]; exact m1)
  have R2 := fun y (hy : 0 ≤ y ∧ y ≤ 255) g W (k : Blk W g .u8 5 (x1.set 0 y ++ mb9)) => RV (x1.set 0 y) (u1.set 0 hy.1 hy.2) (by rw [List.length_set]; exact m1) _ _ W (room_sl k (by rw [List.length_set]; omega))
  simp only [List.length_set] at V2 R2
  obtain ⟨code, hcode⟩ : ∃ c, c = edCode x0 x1 x2 := ⟨_, rfl⟩
  rw [← hcode] at V1 R1
  obtain ⟨n0, hn0⟩ : ∃ n, n = x0.length := ⟨_, rfl⟩
  obtain ⟨n1, hn1⟩ : ∃ n, n = x1.length := ⟨_, rfl⟩
  obtain ⟨n2, hn2⟩ : ∃ n, n = x2.length := ⟨_, rfl⟩
  rw [← hn0] at rm0 sp0 V1 R1 V2 R2 ⊢
  rw [← hn1] at rm1 sp1 V1 R1 V2 R2 ⊢
  rw [← hn2] at rm2 sp2 V1 R1 V2 R2 ⊢
  have HN1 := Lib.hid hn1
  have L1 : n1 ≤ 1048576 := by omega
  clear hcode hn0 hn1 hn2 VE RV m0 m1 m2
  go_enter Tryz.func3, Tryz.ntmps3
  have hB := Below.refl w.heap.size w
  go_wp2_with fail
  refine (rm0 _ hB).mono ?_; rintro e_ w1 ⟨g0, rfl, hge_, k0, hb⟩
  have HB_k0 : Hid (w.heap.size ≤ g0) := Lib.hid (Nat.le_trans hB.size hge_)
  replace hB := hB.trans (hb.mono hB.size)
  clear hb hge_
  go_wp2_with fail
  refine (rm1 _ hB).mono ?_; rintro e_ w2 ⟨g1, rfl, hge_, k1, hb⟩
  have nbb_k0_k1 : Hid (g0 ≠ g1) := Lib.hid (by have := k0.lt; have := hge_; omega)
  have HB_k1 : Hid (w.heap.size ≤ g1) := Lib.hid (Nat.le_trans hB.size hge_)
  replace hB := hB.trans (hb.mono hB.size)
  replace k0 := k0.keep hb
  clear hb hge_
  go_wp2_with fail
  refine (rm2 _ hB).mono ?_; rintro e_ w3 ⟨g2, rfl, hge_, k2, hb⟩
  have nbb_k0_k2 : Hid (g0 ≠ g2) := Lib.hid (by have := k0.lt; have := hge_; omega)
  have nbb_k1_k2 : Hid (g1 ≠ g2) := Lib.hid (by have := k1.lt; have := hge_; omega)
  have HB_k2 : Hid (w.heap.size ≤ g2) := Lib.hid (Nat.le_trans hB.size hge_)
  replace hB := hB.trans (hb.mono hB.size)
  replace k0 := k0.keep hb
  replace k1 := k1.keep hb
  clear hb hge_
  go_wp2_with fail
  refine (V1 g0 g1 g2 _ k0 k1 k2 hB).mono ?_; rintro e_ w4 ⟨rfl, hb⟩
  replace hB := hB.trans (hb.mono hB.size)
  replace k0 := k0.keep hb
  replace k1 := k1.keep hb
  replace k2 := k2.keep hb
  clear hb
  have hcc_ : (code != code) = false := by simp
  go_wp2_with fail
  refine (R1 _ hB).mono ?_; rintro e_ w5 ⟨rfl, hb⟩
  replace hB := hB.trans (hb.mono hB.size)
  replace k0 := k0.keep hb
  replace k1 := k1.keep hb
  replace k2 := k2.keep hb
  clear hb
  go_wp2_with fail
  refine (sp0 g0 _ k0 hB).mono ?_; rintro e_ w6 ⟨rfl, hb⟩
  replace hB := hB.trans (hb.mono hB.size)
  replace k0 := k0.keep hb
  replace k1 := k1.keep hb
  replace k2 := k2.keep hb
  clear hb
  go_wp2_with fail
  refine (sp1 g1 _ k1 hB).mono ?_; rintro e_ w7 ⟨rfl, hb⟩
  replace hB := hB.trans (hb.mono hB.size)
  replace k0 := k0.keep hb
  replace k1 := k1.keep hb
  replace k2 := k2.keep hb
  clear hb
  go_wp2_with fail
  refine (sp2 g2 _ k2 hB).mono ?_; rintro e_ w8 ⟨rfl, hb⟩
  replace hB := hB.trans (hb.mono hB.size)
  replace k0 := k0.keep hb
  replace k1 := k1.keep hb
  replace k2 := k2.keep hb
  clear hb
  clear hcc_ R1 V1 sp0 sp1 sp2 rm0 rm1 rm2
  by_cases h0 : n1 = 0
  · skip
    have g_ : ((n1 : Int) == 0) = true := by simp [h0]
    clear h0
    go_wp2_with fail
    go_ret
    exact ⟨by first | done | rfl | simp, hB⟩
  · skip
    have g_ : ((n1 : Int) == 0) = false := by simp [h0]
    have hd0 : decide ((0 : Int) < (n1 : Int)) = true := decide_eq_true (by omega)
    have hd1_ : (0 : Int) < (n1 : Int) := by omega
    have h0_ : 0 < n1 := by omega
    have b0 := k1.cell 0 (by rw [List.length_append, ← HN1.out]; omega)
    have bf := k1.free 0
    obtain ⟨z0, hx0⟩ : ∃ x, x = nth (x1 ++ mb9) 0 := ⟨_, rfl⟩
    rw [← hx0] at b0
    have xr_ := xor_u8_r z0 1
    obtain ⟨y0, hy0_⟩ : ∃ y, y = bits .xor .u8 z0 1 := ⟨_, rfl⟩
    rw [← hy0_] at xr_
    have eqs := hy0_.symm
    have ks_ := k1.set 0 y0
    rw [List.set_append_left _ _ (by rw [← HN1.out]; exact h0_)] at ks_
    have V3 := V2 y0 xr_
    have R3 := R2 y0 xr_
    obtain ⟨X, hX⟩ : ∃ k, k = x1.set 0 y0 := ⟨_, rfl⟩
    rw [← hX] at V3 R3 ks_
    obtain ⟨code2, hcode2⟩ : ∃ c, c = edCode x0 X x2 := ⟨_, rfl⟩
    rw [← hcode2] at V3 R3
    clear hx0 hy0_ hX hcode2 h0 h0_ V2 R2
    replace hB := hB.setCell (p := ⟨g1, 0, none⟩) HB_k1.out (.int .u8 y0)
    replace k0 := k0.other nbb_k0_k1.out 0 (.int .u8 y0)
    replace k2 := k2.other (Ne.symm nbb_k1_k2.out) 0 (.int .u8 y0)
    replace k1 := ks_
    clear ks_
    go_wp2_with fail
    refine (R3 g1 _ k1 hB).mono ?_; rintro e_ w9 ⟨rfl, hb⟩
    replace hB := hB.trans (hb.mono hB.size)
    replace k0 := k0.keep hb
    replace k1 := k1.keep hb
    replace k2 := k2.keep hb
    clear hb
    try clear b0 bf eqs
    have hcd_ : (code2 == code2) = true := by simp
    go_wp2_with fail
    refine (V3 g0 g1 g2 _ k0 k1 k2 hB).mono ?_; rintro e_ w10 ⟨rfl, hb⟩
    replace hB := hB.trans (hb.mono hB.size)
    replace k0 := k0.keep hb
    replace k1 := k1.keep hb
    replace k2 := k2.keep hb
    clear hb
    go_wp2_with fail
    go_ret
    exact ⟨by first | done | rfl | simp, hB⟩
end Go.Proofs.YtlolkighnnedfaaGreatDoor
