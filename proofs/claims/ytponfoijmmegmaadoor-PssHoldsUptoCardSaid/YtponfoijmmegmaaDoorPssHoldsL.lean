/- signetlaw10.PssHolds by its contract. (Printed by gen_pssholds.py.) -/
import Derived.Test.YtponfoijmmegmaaDoorPssI
import Derived.Test.YtponfoijmmegmaaDoorPssG
set_option linter.unusedVariables false
set_option linter.unusedSimpArgs false
namespace Go.Proofs.YtponfoijmmegmaaDoor
open Go.RowKit Go.Sg

set_option maxHeartbeats 8000000 in
set_option maxRecDepth 20000 in
theorem PssHolds_c (h n : Int) (a a' : Option Addr) (cap cap' : Nat) (d s : List Int) (w : World) (hx : Sl .u8 w a cap d) (ux : U8 d) (hy : Sl .u8 w a' cap' s) (uy : U8 s) (hz : d.length + s.length ≤ 1048576) (ht : ShaTabs w) (hr : RefTabs w) :
    Calls Tryd.prog 4 #[.int .i64 h, .slice a d.length cap, .slice a' s.length cap', .int .i64 n] w (TruePost w) := by
  have ht0 := ht
  have hx0 := hx
  have hy0 := hy
  have hr0 := hr
  obtain ⟨l, hl⟩ : ∃ l, l = d.length := ⟨_, rfl⟩
  obtain ⟨m, hm⟩ : ∃ m, m = s.length := ⟨_, rfl⟩
  have HL := Lib.hid hl
  have HM := Lib.hid hm
  have l1 : l ≤ 1048576 := by omega
  have m1 : m ≤ 1048576 := by omega
  have lz : l + m ≤ 1048576 := by omega
  have nd : Hid ((ng d).length = l) := Lib.hid (by rw [ng_len, HL.out])
  have ns : Hid ((ng s).length = m) := Lib.hid (by rw [ng_len, HM.out])
  have cP := fun (X Y : List Int) (hX : X.length = l) (hY : Y.length = m) (uX : U8 X) (uY : U8 Y) W a1 c1 a2 c2 (sx : Sl .u8 W a1 c1 X) (sy : Sl .u8 W a2 c2 Y) (t : ShaTabs W) => pHolds_c h n a1 a2 c1 c2 X Y W sx sy uX uY (by omega) t
  have cR := fun (X Y : List Int) (hX : X.length = l) (hY : Y.length = m) (uX : U8 X) (uY : U8 Y) W a1 c1 a2 c2 (sx : Sl .u8 W a1 c1 X) (sy : Sl .u8 W a2 c2 Y) (t : RefTabs W) => rHolds_c h n a1 a2 c1 c2 X Y W sx sy uX uY (by omega) t
  obtain ⟨b1, hb1⟩ : ∃ x, x = decide (holdsOf h d s n) := ⟨_, rfl⟩
  obtain ⟨b2, hb2⟩ : ∃ x, x = decide (holdsOf h (ng d) s n) := ⟨_, rfl⟩
  obtain ⟨b3, hb3⟩ : ∃ x, x = decide (holdsOf h d (ng s) n) := ⟨_, rfl⟩
  have q1 := cP d s HL.out.symm HM.out.symm ux uy
  have q2 := cR d s HL.out.symm HM.out.symm ux uy
  have q3 := cP (ng d) s nd.out HM.out.symm (ng_u8 ux) uy
  have q4 := cR (ng d) s nd.out HM.out.symm (ng_u8 ux) uy
  have q5 := cP d (ng s) HL.out.symm ns.out ux (ng_u8 uy)
  have q6 := cR d (ng s) HL.out.symm ns.out ux (ng_u8 uy)
  unfold TellPost at q1 q2 q3 q4 q5 q6
  rw [← hb1, ← hl, ← hm] at q1 q2
  rw [← hb2, nd.out, ← hm] at q3 q4
  rw [← hb3, ← hl, ns.out] at q5 q6
  clear cP cR
  have rc := roomy_c a cap d w hx (by omega)
  have rd := fun W (sy : Sl .u8 W a' cap' s) => roomy_c a' cap' s W sy (by omega)
  unfold RoomPost at rc rd
  rw [← hl] at rc ⊢
  rw [← hm] at rd ⊢
  have e1 : (b1 != b1) = false := by simp
  have e2 : (b2 != b2) = false := by simp
  have e3 : (b3 == b3) = true := by simp
  clear hl hm hb1 hb2 hb3 hz
  go_enter Tryd.func4, Tryd.ntmps4
  have hB := Below.refl w.heap.size w
  go_wp2_with fail
  refine (rc).mono ?_; rintro e w1 ⟨g1, rfl, hg1, k1, hb⟩
  replace hx := hx.below hb
  replace hy := hy.below hb
  replace ht := ht.below hb
  replace hr := hr.below hb
  replace hB := hB.trans (hb.mono hB.size)
  clear hb
  clear rc
  have k1s := k1.lt
  have hBs := hB.size
  go_wp2_with fail
  refine (rd _ hy).mono ?_; rintro e w2 ⟨g2, rfl, hg2, k2, hb⟩
  replace hx := hx.below hb
  replace hy := hy.below hb
  replace ht := ht.below hb
  replace hr := hr.below hb
  replace k1 := k1.below hb k1.lt
  replace hB := hB.trans (hb.mono hB.size)
  clear hb
  have g12 : g1 < g2 := by omega
  have hg2w : w.heap.size ≤ g2 := by omega
  have aphx_g1 := hx0.apart hg1
  have aphy_g1 := hy0.apart hg1
  have aphx_g2 := hx0.apart hg2w
  have aphy_g2 := hy0.apart hg2w
  have bk : ∀ W, Blk W g1 .u8 5 (d ++ m9) → Sl .u8 W (some ⟨g1, 0, none⟩) (l + 9) d := fun W k => by rw [HL.out]; exact blk_sl k (by rw [← HL.out]; omega)
  have bk2 : ∀ W, Blk W g2 .u8 5 (s ++ m9) → Sl .u8 W (some ⟨g2, 0, none⟩) (m + 9) s := fun W k => by rw [HM.out]; exact blk_sl k (by rw [← HM.out]; omega)
  have bk3 : ∀ W, Blk W g1 .u8 5 (ng d ++ m9) → Sl .u8 W (some ⟨g1, 0, none⟩) (l + 9) (ng d) := fun W k => by rw [← nd.out]; exact blk_sl k (by rw [nd.out]; omega)
  have bk4 : ∀ W, Blk W g2 .u8 5 (ng s ++ m9) → Sl .u8 W (some ⟨g2, 0, none⟩) (m + 9) (ng s) := fun W k => by rw [← ns.out]; exact blk_sl k (by rw [ns.out]; omega)
  clear hBs rd k1s hx0 hy0
  go_wp2_with fail
  refine (q1 _ (some ⟨g1, 0, none⟩) (l + 9) (some ⟨g2, 0, none⟩) (m + 9) (bk _ k1) (bk2 _ k2) ht).mono ?_; rintro e w3 ⟨rfl, hb⟩
  replace hx := hx.below hb
  replace hy := hy.below hb
  replace ht := ht.below hb
  replace hr := hr.below hb
  replace k1 := k1.below hb k1.lt
  replace k2 := k2.below hb k2.lt
  replace hB := hB.trans (hb.mono hB.size)
  clear hb
  go_wp2_with fail
  refine (q2 _ a cap a' cap' hx hy hr).mono ?_; rintro e w4 ⟨rfl, hb⟩
  replace hx := hx.below hb
  replace hy := hy.below hb
  replace ht := ht.below hb
  replace hr := hr.below hb
  replace k1 := k1.below hb k1.lt
  replace k2 := k2.below hb k2.lt
  replace hB := hB.trans (hb.mono hB.size)
  clear hb
  have sp := spared_c g1 a cap d _ k1 hx ux (by rw [← HL.out]; omega)
  rw [← HL.out] at sp
  go_wp2_with fail
  refine (sp).mono ?_; rintro e w5 ⟨rfl, hb⟩
  replace hx := hx.below hb
  replace hy := hy.below hb
  replace ht := ht.below hb
  replace hr := hr.below hb
  replace k1 := k1.below hb k1.lt
  replace k2 := k2.below hb k2.lt
  replace hB := hB.trans (hb.mono hB.size)
  clear hb
  clear sp
  have sp := spared_c g2 a' cap' s _ k2 hy uy (by rw [← HM.out]; omega)
  rw [← HM.out] at sp
  go_wp2_with fail
  refine (sp).mono ?_; rintro e w6 ⟨rfl, hb⟩
  replace hx := hx.below hb
  replace hy := hy.below hb
  replace ht := ht.below hb
  replace hr := hr.below hb
  replace k1 := k1.below hb k1.lt
  replace k2 := k2.below hb k2.lt
  replace hB := hB.trans (hb.mono hB.size)
  clear hb
  clear sp e1 q1 q2
  have tc := turn_c g1 (l + 9) d m9 _ k1 ux (by rw [← HL.out]; omega) (by rw [← HL.out]; omega)
  rw [← HL.out] at tc
  go_wp2_with fail
  refine (tc).mono ?_; rintro e w7 ⟨rfl, k3, hg7⟩
  replace hx := hx.grown' hg7 (fun b off ha hp e => aphx_g1 b off ha hp (Option.some.inj e))
  replace hy := hy.grown' hg7 (fun b off ha hp e => aphy_g1 b off ha hp (Option.some.inj e))
  replace ht := ht.grown hg7 (Nat.le_trans (ht0.top) (by omega))
  replace hr := hr.grown hg7 (Nat.le_trans (hr0.top) (by omega))
  replace k2 := k2.grown hg7 (by simp; omega)
  replace hB := below_then hB hg7 hg1 hB.size
  clear hg7 k1
  clear tc
  go_wp2_with fail
  refine (q4 _ (some ⟨g1, 0, none⟩) (l + 9) a' cap' (bk3 _ k3) hy hr).mono ?_; rintro e w8 ⟨rfl, hb⟩
  replace hx := hx.below hb
  replace hy := hy.below hb
  replace ht := ht.below hb
  replace hr := hr.below hb
  replace k2 := k2.below hb k2.lt
  replace k3 := k3.below hb k3.lt
  replace hB := hB.trans (hb.mono hB.size)
  clear hb
  go_wp2_with fail
  refine (q3 _ (some ⟨g1, 0, none⟩) (l + 9) (some ⟨g2, 0, none⟩) (m + 9) (bk3 _ k3) (bk2 _ k2) ht).mono ?_; rintro e w9 ⟨rfl, hb⟩
  replace hx := hx.below hb
  replace hy := hy.below hb
  replace ht := ht.below hb
  replace hr := hr.below hb
  replace k2 := k2.below hb k2.lt
  replace k3 := k3.below hb k3.lt
  replace hB := hB.trans (hb.mono hB.size)
  clear hb
  clear e2 q3 q4
  have tc := turn_c g1 (l + 9) (ng d) m9 _ k3 (ng_u8 ux) (by rw [nd.out]; omega) (by rw [nd.out]; omega)
  rw [nd.out, ng_ng] at tc
  go_wp2_with fail
  refine (tc).mono ?_; rintro e w10 ⟨rfl, k5, hg10⟩
  replace hx := hx.grown' hg10 (fun b off ha hp e => aphx_g1 b off ha hp (Option.some.inj e))
  replace hy := hy.grown' hg10 (fun b off ha hp e => aphy_g1 b off ha hp (Option.some.inj e))
  replace ht := ht.grown hg10 (Nat.le_trans (ht0.top) (by omega))
  replace hr := hr.grown hg10 (Nat.le_trans (hr0.top) (by omega))
  replace k2 := k2.grown hg10 (by simp; omega)
  replace hB := below_then hB hg10 hg1 hB.size
  clear hg10 k3
  clear tc
  have tc := turn_c g2 (m + 9) s m9 _ k2 uy (by rw [← HM.out]; omega) (by rw [← HM.out]; omega)
  rw [← HM.out] at tc
  go_wp2_with fail
  refine (tc).mono ?_; rintro e w11 ⟨rfl, k4, hg11⟩
  replace hx := hx.grown' hg11 (fun b off ha hp e => aphx_g2 b off ha hp (Option.some.inj e))
  replace hy := hy.grown' hg11 (fun b off ha hp e => aphy_g2 b off ha hp (Option.some.inj e))
  replace ht := ht.grown hg11 (Nat.le_trans (ht0.top) (by omega))
  replace hr := hr.grown hg11 (Nat.le_trans (hr0.top) (by omega))
  replace k5 := k5.grown hg11 (by simp; omega)
  replace hB := below_then hB hg11 hg2w hB.size
  clear hg11 k2
  clear tc
  go_wp2_with fail
  refine (q6 _ a cap (some ⟨g2, 0, none⟩) (m + 9) hx (bk4 _ k4) hr).mono ?_; rintro e w12 ⟨rfl, hb⟩
  replace hx := hx.below hb
  replace hy := hy.below hb
  replace ht := ht.below hb
  replace hr := hr.below hb
  replace k5 := k5.below hb k5.lt
  replace k4 := k4.below hb k4.lt
  replace hB := hB.trans (hb.mono hB.size)
  clear hb
  go_wp2_with fail
  refine (q5 _ (some ⟨g1, 0, none⟩) (l + 9) (some ⟨g2, 0, none⟩) (m + 9) (bk _ k5) (bk4 _ k4) ht).mono ?_; rintro e w13 ⟨rfl, hb⟩
  replace hx := hx.below hb
  replace hy := hy.below hb
  replace ht := ht.below hb
  replace hr := hr.below hb
  replace k5 := k5.below hb k5.lt
  replace k4 := k4.below hb k4.lt
  replace hB := hB.trans (hb.mono hB.size)
  clear hb
  go_wp2_with fail
  go_ret
  exact ⟨rfl, hB⟩
end Go.Proofs.YtponfoijmmegmaaDoor
