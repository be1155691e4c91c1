/- signetlaw10.PssEncodes by its contract. (Printed by gen_pssencodes.py.) -/
import Derived.Test.YtponfoijmmegmaaDoorPssF
set_option linter.unusedVariables false
set_option linter.unusedSimpArgs false
namespace Go.Proofs.YtponfoijmmegmaaDoor
open Go.RowKit Go.Sg

set_option maxHeartbeats 8000000 in
set_option maxRecDepth 20000 in
theorem PssEncodes_c (h n : Int) (a a' : Option Addr) (cap cap' : Nat) (d s : List Int) (w : World) (hx : Sl .u8 w a cap d) (ux : U8 d) (hy : Sl .u8 w a' cap' s) (uy : U8 s) (hz : d.length + s.length ≤ 1048576) (ht : ShaTabs w) (hr : RefTabs w) :
    Calls Tryd.prog 3 #[.int .i64 h, .slice a d.length cap, .slice a' s.length cap', .int .i64 n] w (TruePost w) := by
  have ht0 := ht
  have hr0 := hr
  obtain ⟨l, hl⟩ : ∃ l, l = d.length := ⟨_, rfl⟩
  obtain ⟨m, hm⟩ : ∃ m, m = s.length := ⟨_, rfl⟩
  have HL := Lib.hid hl
  have HM := Lib.hid hm
  have l1 : l ≤ 1048576 := by omega
  have m1 : m ≤ 1048576 := by omega
  have bz : Hid (d.length + s.length ≤ 2097152) := Lib.hid (by omega)
  have bn : Hid ((ng d).length + (ng s).length ≤ 2097152) := Lib.hid (by rw [ng_len, ng_len]; omega)
  have nd : Hid ((ng d).length = l) := Lib.hid (by rw [ng_len, HL.out])
  have ns : Hid ((ng s).length = m) := Lib.hid (by rw [ng_len, HM.out])
  obtain ⟨C, hC⟩ : ∃ C, C = ecode h d s n := ⟨_, rfl⟩
  obtain ⟨C2, hC2⟩ : ∃ C, C = ecode h (ng d) (ng s) n := ⟨_, rfl⟩
  have cP := fun W a1 c1 a2 c2 (sx : Sl .u8 W a1 c1 d) (sy : Sl .u8 W a2 c2 s) (t : ShaTabs W) => pEncode_c h n a1 a2 c1 c2 d s W sx sy ux uy bz.out t
  have cR := fun W a1 c1 a2 c2 (sx : Sl .u8 W a1 c1 d) (sy : Sl .u8 W a2 c2 s) (t : RefTabs W) => rEncode_c h n a1 a2 c1 c2 d s W sx sy ux uy bz.out t
  have cP2 := fun W a1 c1 a2 c2 (sx : Sl .u8 W a1 c1 (ng d)) (sy : Sl .u8 W a2 c2 (ng s)) (t : ShaTabs W) => pEncode_c h n a1 a2 c1 c2 (ng d) (ng s) W sx sy (ng_u8 ux) (ng_u8 uy) bn.out t
  have cR2 := fun W a1 c1 a2 c2 (sx : Sl .u8 W a1 c1 (ng d)) (sy : Sl .u8 W a2 c2 (ng s)) (t : RefTabs W) => rEncode_c h n a1 a2 c1 c2 (ng d) (ng s) W sx sy (ng_u8 ux) (ng_u8 uy) bn.out t
  unfold EncPost at cP cR cP2 cR2
  rw [← hC, ← hl, ← hm] at cP cR
  rw [← hC2, nd.out, ns.out] at cP2 cR2
  have rc := roomy_c a cap d w hx (by omega)
  have rd := fun W (sy : Sl .u8 W a' cap' s) => roomy_c a' cap' s W sy (by omega)
  unfold RoomPost at rc rd
  rw [← hl] at rc ⊢
  rw [← hm] at rd ⊢
  have hne : (C != C) = false := by simp
  have heq : (C2 == C2) = true := by simp
  clear hl hm hC hC2 hz
  go_enter Tryd.func3, Tryd.ntmps3
  have hB := Below.refl w.heap.size w
  go_wp2_with fail
  refine (rc).mono ?_; rintro e w1 ⟨g1, rfl, hg1, k1, hb⟩
  replace hx := hx.below hb
  replace hy := hy.below hb
  replace ht := ht.below hb
  replace hr := hr.below hb
  replace hB := hB.trans (hb.mono hB.size)
  clear hb
  clear rc
  have k1s := k1.lt
  have hBs := hB.size
  go_wp2_with fail
  refine (rd _ hy).mono ?_; rintro e w2 ⟨g2, rfl, hg2, k2, hb⟩
  replace hx := hx.below hb
  replace hy := hy.below hb
  replace ht := ht.below hb
  replace hr := hr.below hb
  replace k1 := k1.below hb k1.lt
  replace hB := hB.trans (hb.mono hB.size)
  clear hb
  have g12 : g1 < g2 := by omega
  have hg2w : w.heap.size ≤ g2 := by omega
  have bk : ∀ W, Blk W g1 .u8 5 (d ++ m9) → Sl .u8 W (some ⟨g1, 0, none⟩) (l + 9) d := fun W k => by rw [HL.out]; exact blk_sl k (by rw [← HL.out]; omega)
  have bk2 : ∀ W, Blk W g2 .u8 5 (s ++ m9) → Sl .u8 W (some ⟨g2, 0, none⟩) (m + 9) s := fun W k => by rw [HM.out]; exact blk_sl k (by rw [← HM.out]; omega)
  clear hBs rd k1s
  go_wp2_with fail
  refine (cP _ (some ⟨g1, 0, none⟩) (l + 9) (some ⟨g2, 0, none⟩) (m + 9) (bk _ k1) (bk2 _ k2) ht).mono ?_; rintro e w3 ⟨vB, rfl, nB, hb⟩
  replace hx := hx.below hb
  replace hy := hy.below hb
  replace ht := ht.below hb
  replace hr := hr.below hb
  replace k1 := k1.below hb k1.lt
  replace k2 := k2.below hb k2.lt
  replace hB := hB.trans (hb.mono hB.size)
  clear hb
  obtain ⟨aB, cB, rfl, sB⟩ := nB.sl
  clear nB
  obtain ⟨zB, hB⟩ : ∃ z, z = eres h d s n := ⟨_, rfl⟩
  rw [← hB] at sB ⊢
  have uB : U8 zB := by rw [hB]; exact eres_u8 uy
  have eB := Lib.hid hB
  clear hB
  go_wp2_with fail
  refine (cR _ a cap a' cap' (hx) (hy) hr).mono ?_; rintro e w4 ⟨vC, rfl, nC, hb⟩
  replace hx := hx.below hb
  replace hy := hy.below hb
  replace ht := ht.below hb
  replace hr := hr.below hb
  replace k1 := k1.below hb k1.lt
  replace k2 := k2.below hb k2.lt
  replace sB := sB.below hb
  replace hB := hB.trans (hb.mono hB.size)
  clear hb
  obtain ⟨aC, cC, rfl, sC⟩ := nC.sl
  clear nC
  obtain ⟨zC, hC⟩ : ∃ z, z = eres h d s n := ⟨_, rfl⟩
  rw [← hC] at sC ⊢
  have uC : U8 zC := by rw [hC]; exact eres_u8 uy
  have eC := Lib.hid hC
  clear hC
  have cm := same10_c _ _ _ _ _ _ _ sB sC uB uC
  rw [show decide (zB = zC) = true from decide_eq_true (by rw [eB.out, eC.out])] at cm
  clear sB sC
  go_wp2_with fail
  refine (cm).mono ?_; rintro e w5 ⟨rfl, hb⟩
  replace hx := hx.below hb
  replace hy := hy.below hb
  replace ht := ht.below hb
  replace hr := hr.below hb
  replace k1 := k1.below hb k1.lt
  replace k2 := k2.below hb k2.lt
  replace hB := hB.trans (hb.mono hB.size)
  clear hb
  clear cm
  have sp := spared_c g1 a cap d _ k1 hx ux (by rw [← HL.out]; omega)
  rw [← HL.out] at sp
  go_wp2_with fail
  refine (sp).mono ?_; rintro e w6 ⟨rfl, hb⟩
  replace hx := hx.below hb
  replace hy := hy.below hb
  replace ht := ht.below hb
  replace hr := hr.below hb
  replace k1 := k1.below hb k1.lt
  replace k2 := k2.below hb k2.lt
  replace hB := hB.trans (hb.mono hB.size)
  clear hb
  clear sp
  have sp := spared_c g2 a' cap' s _ k2 hy uy (by rw [← HM.out]; omega)
  rw [← HM.out] at sp
  go_wp2_with fail
  refine (sp).mono ?_; rintro e w7 ⟨rfl, hb⟩
  replace hx := hx.below hb
  replace hy := hy.below hb
  replace ht := ht.below hb
  replace hr := hr.below hb
  replace k1 := k1.below hb k1.lt
  replace k2 := k2.below hb k2.lt
  replace hB := hB.trans (hb.mono hB.size)
  clear hb
  clear sp
  clear hx hy
  clear hne
  have tc := turn_c g1 (l + 9) d m9 _ k1 ux (by rw [← HL.out]; omega) (by rw [← HL.out]; omega)
  rw [← HL.out] at tc
  go_wp2_with fail
  refine (tc).mono ?_; rintro e w8 ⟨rfl, k3, hg8⟩
  replace ht := ht.grown hg8 (Nat.le_trans (ht0.top) (by omega))
  replace hr := hr.grown hg8 (Nat.le_trans (hr0.top) (by omega))
  replace k2 := k2.grown hg8 (by simp; omega)
  replace hB := below_then hB hg8 hg1 hB.size
  clear hg8 k1
  clear tc
  have tc := turn_c g2 (m + 9) s m9 _ k2 uy (by rw [← HM.out]; omega) (by rw [← HM.out]; omega)
  rw [← HM.out] at tc
  go_wp2_with fail
  refine (tc).mono ?_; rintro e w9 ⟨rfl, k4, hg9⟩
  replace ht := ht.grown hg9 (Nat.le_trans (ht0.top) (by omega))
  replace hr := hr.grown hg9 (Nat.le_trans (hr0.top) (by omega))
  replace k3 := k3.grown hg9 (by simp; omega)
  replace hB := below_then hB hg9 hg2w hB.size
  clear hg9 k2
  clear tc
  have bk3 : ∀ W, Blk W g1 .u8 5 (ng d ++ m9) → Sl .u8 W (some ⟨g1, 0, none⟩) (l + 9) (ng d) := fun W k => by rw [← nd.out]; exact blk_sl k (by rw [nd.out]; omega)
  have bk4 : ∀ W, Blk W g2 .u8 5 (ng s ++ m9) → Sl .u8 W (some ⟨g2, 0, none⟩) (m + 9) (ng s) := fun W k => by rw [← ns.out]; exact blk_sl k (by rw [ns.out]; omega)
  go_wp2_with fail
  refine (cR2 _ (some ⟨g1, 0, none⟩) (l + 9) (some ⟨g2, 0, none⟩) (m + 9) (bk3 _ k3) (bk4 _ k4) hr).mono ?_; rintro e w10 ⟨vD, rfl, nD, hb⟩
  replace ht := ht.below hb
  replace hr := hr.below hb
  replace k3 := k3.below hb k3.lt
  replace k4 := k4.below hb k4.lt
  replace hB := hB.trans (hb.mono hB.size)
  clear hb
  obtain ⟨aD, cD, rfl, sD⟩ := nD.sl
  clear nD
  obtain ⟨zD, hD⟩ : ∃ z, z = eres h (ng d) (ng s) n := ⟨_, rfl⟩
  rw [← hD] at sD ⊢
  have uD : U8 zD := by rw [hD]; exact eres_u8 (ng_u8 uy)
  have eD := Lib.hid hD
  clear hD
  go_wp2_with fail
  refine (cP2 _ (some ⟨g1, 0, none⟩) (l + 9) (some ⟨g2, 0, none⟩) (m + 9) (bk3 _ k3) (bk4 _ k4) ht).mono ?_; rintro e w11 ⟨vE, rfl, nE, hb⟩
  replace ht := ht.below hb
  replace hr := hr.below hb
  replace k3 := k3.below hb k3.lt
  replace k4 := k4.below hb k4.lt
  replace sD := sD.below hb
  replace hB := hB.trans (hb.mono hB.size)
  clear hb
  obtain ⟨aE, cE, rfl, sE⟩ := nE.sl
  clear nE
  obtain ⟨zE, hE⟩ : ∃ z, z = eres h (ng d) (ng s) n := ⟨_, rfl⟩
  rw [← hE] at sE ⊢
  have uE : U8 zE := by rw [hE]; exact eres_u8 (ng_u8 uy)
  have eE := Lib.hid hE
  clear hE
  have cm := same10_c _ _ _ _ _ _ _ sE sD uE uD
  rw [show decide (zE = zD) = true from decide_eq_true (by rw [eE.out, eD.out])] at cm
  go_wp2_with fail
  refine (cm).mono ?_; rintro e w12 ⟨rfl, hb⟩
  replace ht := ht.below hb
  replace hr := hr.below hb
  replace k3 := k3.below hb k3.lt
  replace k4 := k4.below hb k4.lt
  replace sD := sD.below hb
  replace sE := sE.below hb
  replace hB := hB.trans (hb.mono hB.size)
  clear hb
  clear cm
  go_wp2_with fail
  go_ret
  exact ⟨rfl, hB⟩
end Go.Proofs.YtponfoijmmegmaaDoor
