/- signetlaw10.PssMasks by its contract. -/
import Derived.Test.YtjoabeofdaifbaaDoorPssR
set_option linter.unusedVariables false
set_option linter.unusedSimpArgs false
namespace Go.Proofs.YtjoabeofdaifbaaDoor
open Go.RowKit Go.Sg

set_option maxHeartbeats 8000000 in
set_option maxRecDepth 20000 in
theorem PssMasks_c (h n : Int) (a : Option Addr) (cap : Nat) (seed : List Int) (w : World) (hx : Sl .u8 w a cap seed) (ux : U8 seed) (hz : seed.length ≤ 1048576) (ht : ShaTabs w) (hr : RefTabs w) :
    Calls Tryd.prog 3 #[.int .i64 h, .slice a seed.length cap, .int .i64 n] w (TruePost w) := by
  obtain ⟨l, hl⟩ : ∃ l, l = seed.length := ⟨_, rfl⟩
  have HL := Lib.hid hl
  obtain ⟨C, hC⟩ : ∃ C, C = mcode h n := ⟨_, rfl⟩
  have cP := fun W a1 c1 (zs : List Int) (s : Sl .u8 W a1 c1 zs) (u : U8 zs) (b : zs.length ≤ 1048576) (t : ShaTabs W) => pMask_c h n a1 c1 zs W s u b t
  have cR := fun W a1 c1 (zs : List Int) (s : Sl .u8 W a1 c1 zs) (u : U8 zs) (b : zs.length ≤ 1048576) (t : RefTabs W) => rMask_c h n a1 c1 zs W s u b t
  unfold MaskPost at cP cR
  rw [← hC] at cP cR
  have rc := roomy_c a cap seed w hx (by omega)
  unfold RoomPost at rc
  rw [← hl] at rc hz ⊢
  have hne : (C != C) = false := by simp
  have heq : (C == C) = true := by simp
  clear hl hC
  go_enter Tryd.func3, Tryd.ntmps3
  go_wp2_with fail
  refine rc.mono ?_; rintro e w1 ⟨g, rfl, hg, hk, hb⟩
  have hB := hb
  have hx1 := hx.below hb
  have ht1 := ht.below hb
  have hr1 := hr.below hb
  have sG := blk_sl hk (by rw [← HL.out]; omega)
  rw [← HL.out] at sG
  have p1 := cP w1 (some ⟨g, 0, none⟩) (l + 9) seed sG ux (by rw [← HL.out]; exact hz) ht1
  rw [← HL.out] at p1
  clear hb rc sG
  go_wp2_with fail
  refine p1.mono ?_; rintro e w2 ⟨v2, rfl, n2, hb⟩
  obtain ⟨aB, cB, rfl, sB⟩ := n2.sl
  obtain ⟨zB, hzB⟩ : ∃ z, z = mres h seed n := ⟨_, rfl⟩
  rw [← hzB] at sB ⊢
  have uB : U8 zB := by rw [hzB]; exact mres_u8 _ _ _
  have eB := Lib.hid hzB
  have hB2 := hB.trans (hb.mono hB.size)
  have hx2 := hx1.below hb
  have ht2 := ht1.below hb
  have hr2 := hr1.below hb
  have hk2 := hk.below hb hk.lt
  have p2 := cR w2 a cap seed hx2 ux (by rw [← HL.out]; exact hz) hr2
  rw [← HL.out] at p2
  clear n2 hzB hb hB hx1 ht1 hr1 hk p1
  go_wp2_with fail
  refine p2.mono ?_; rintro e w3 ⟨v3, rfl, n3, hb⟩
  obtain ⟨aC, cC, rfl, sC⟩ := n3.sl
  obtain ⟨zC, hzC⟩ : ∃ z, z = mres h seed n := ⟨_, rfl⟩
  rw [← hzC] at sC ⊢
  have uC : U8 zC := by rw [hzC]; exact mres_u8 _ _ _
  have eBC : Hid (zB = zC) := Lib.hid (by rw [hzC, eB.out])
  have hB3 := hB2.trans (hb.mono hB2.size)
  have hx3 := hx2.below hb
  have ht3 := ht2.below hb
  have hr3 := hr2.below hb
  have hk3 := hk2.below hb hk2.lt
  have sB3 := sB.below hb
  have cm := same10_c _ _ _ _ _ _ _ sB3 sC uB uC
  rw [show decide (zB = zC) = true from decide_eq_true eBC.out] at cm
  clear n3 hzC hb hB2 hx2 ht2 hr2 hk2 p2 sB
  go_wp2_with fail
  refine cm.mono ?_; rintro e w4 ⟨rfl, hb⟩
  have hB4 := hB3.trans (hb.mono hB3.size)
  have hx4 := hx3.below hb
  have ht4 := ht3.below hb
  have hr4 := hr3.below hb
  have hk4 := hk3.below hb hk3.lt
  have sp := spared_c g a cap seed w4 hk4 hx4 ux (by rw [← HL.out]; omega)
  rw [← HL.out] at sp
  clear cm hb hB3 hx3 ht3 hr3 hk3 sB3 sC
  go_wp2_with fail
  refine sp.mono ?_; rintro e w5 ⟨rfl, hb⟩
  have hB5 := hB4.trans (hb.mono hB4.size)
  have hk5 := hk4.below hb hk4.lt
  have hlen : seed.length = l := HL.out.symm
  have HLEN := Lib.hid hlen
  clear sp hb hB4 hx4 ht4 hr4 hk4 hlen
  go_wp2_with fail
  clear hne
  go_loopw [12] (fun t wr => ∃ (k : Nat) (z : List Int), k ≤ l ∧ t = .int .i64 (k : Int) ∧ z.length = l ∧ U8 z ∧ Blk wr g .u8 5 (z ++ m9) ∧ Below w.heap.size w wr) (fun t _ => l - (intOf t).toNat)
  case atStart => exact ⟨0, seed, by omega, rfl, HLEN.out, ux, hk5, hB5⟩
  case round =>
    clear hk5 hB5
    obtain ⟨k, z, hk1, rfl, hzl, hu, hkb, hb⟩ := hrel
    have ZL := Lib.hid hzl
    clear hzl
    by_cases hlt : k < l
    · have c0 := hkb.cell k (by rw [List.length_append, ZL.out]; omega)
      rw [nth_append_left _ _ _ (by rw [ZL.out]; exact hlt)] at c0
      have f0 := hkb.free k
      have ux1 := hu k
      obtain ⟨x, hx⟩ : ∃ x, x = nth z k := ⟨_, rfl⟩
      rw [← hx] at c0 ux1
      obtain ⟨y, hy⟩ : ∃ y, y = 255 - x := ⟨_, rfl⟩
      have hyw : IntKind.u8.wrap (255 - x) = y := by rw [IntKind.wrap_u8', hy]; omega
      have hym : (255 - x) % 256 = y := by rw [hy]; omega
      have y0 : 0 ≤ y ∧ y ≤ 255 := by omega
      have hs := hkb.set k y
      rw [List.set_append_left _ _ (by rw [ZL.out]; exact hlt)] at hs
      have hb' := hb.setCell (p := ⟨g, k, none⟩) hg (.int .u8 y)
      have hl2 : Hid ((z.set k y).length = l) := Lib.hid (by rw [List.length_set, ZL.out])
      have hu2 := InR.set hu k y0.1 y0.2
      have hin : (k : Int) < (l : Int) := by omega
      have hd1 : decide ((k : Int) < (l : Int)) = true := decide_eq_true hin
      clear hx hy hkb hb
      go_wp2_with fail
      go_roundw
      case rel => exact ⟨k + 1, _, by omega, by go_num, hl2.out, hu2, hs, hb'⟩
      case measure => simp [intOf]; omega
    · obtain rfl : l = k := by omega
      have hd1 : decide ((l : Int) < (l : Int)) = false := by simp
      have htr := ht.below hb
      have hrr := hr.below hb
      have sG := blk_sl hkb (by rw [ZL.out]; omega)
      have p3 := cR wr (some ⟨g, 0, none⟩) (z.length + 9) z sG hu (by rw [ZL.out]; omega) hrr
      rw [ZL.out] at p3 sG
      clear hkb
      go_wp2_with fail
      refine p3.mono ?_; rintro e w6 ⟨v6, rfl, n6, hb6⟩
      obtain ⟨aD, cD, rfl, sD⟩ := n6.sl
      obtain ⟨zD, hzD⟩ : ∃ q, q = mres h z n := ⟨_, rfl⟩
      rw [← hzD] at sD ⊢
      have uD : U8 zD := by rw [hzD]; exact mres_u8 _ _ _
      have eD := Lib.hid hzD
      have p4 := cP w6 (some ⟨g, 0, none⟩) (l + 9) z (sG.below hb6) hu (by rw [ZL.out]; omega) (htr.below hb6)
      rw [ZL.out] at p4
      clear n6 hzD p3
      go_wp2_with fail
      refine p4.mono ?_; rintro e w7 ⟨v7, rfl, n7, hb7⟩
      obtain ⟨aE, cE, rfl, sE⟩ := n7.sl
      obtain ⟨zE, hzE⟩ : ∃ q, q = mres h z n := ⟨_, rfl⟩
      rw [← hzE] at sE ⊢
      have uE : U8 zE := by rw [hzE]; exact mres_u8 _ _ _
      have eED : Hid (zE = zD) := Lib.hid (by rw [hzE, eD.out])
      have sD7 := sD.below hb7
      have h67 := hb6.trans (hb7.mono hb6.size)
      have cm := same10_c _ _ _ _ _ _ _ sE sD7 uE uD
      rw [show decide (zE = zD) = true from decide_eq_true eED.out] at cm
      clear n7 hzE p4
      go_wp2_with fail
      refine cm.mono ?_; rintro e w8 ⟨rfl, hb8⟩
      have hfin := hb.trans ((h67.trans (hb8.mono h67.size)).mono hb.size)
      go_wp2_with fail
      go_ret
      exact ⟨rfl, hfin⟩
end Go.Proofs.YtjoabeofdaifbaaDoor
