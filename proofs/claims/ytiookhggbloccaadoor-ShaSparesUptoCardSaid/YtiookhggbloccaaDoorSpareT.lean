/- signetlaw4.twice by its contract. -/
import Derived.Test.YtiookhggbloccaaDoorSpareA
set_option linter.unusedVariables false
set_option linter.unusedSimpArgs false
namespace Go.Sg
theorem own_ne {G g : Nat} {P : Prop} (h : G ≠ g) : ∀ b off, (some ⟨G, 0, none⟩ : Option Addr) = some ⟨b, off, none⟩ → P → b ≠ g := by
  intro b off ha _ e
  have h2 := Option.some.inj ha
  simp only [Addr.mk.injEq] at h2
  exact h (h2.1.trans e)
end Go.Sg
namespace Go.Proofs.YtiookhggbloccaaDoor
open Go.RowKit Go.Sg

set_option maxHeartbeats 4000000 in
set_option maxRecDepth 20000 in
theorem twice_c (h : Int) (hh : IsHash h) (a : Option Addr) (cap : Nat) (xs : List Int) (w : World) (hx : Sl .u8 w a cap xs) (ux : U8 xs) (hl : xs.length ≤ 1048576) (ht : ShaTabs w) :
    Calls Tryd.prog 7 #[.int .i64 h, .slice a xs.length cap] w (TellPost true w) := by
  obtain ⟨l, hl1⟩ : ∃ l, l = xs.length := ⟨_, rfl⟩
  have HL := Lib.hid hl1
  have rc := roomy_c a cap xs w hx (by omega)
  unfold RoomPost at rc
  rw [← hl1] at rc hl ⊢
  have top := ht.top
  clear hl1
  go_enter Tryd.func7, Tryd.ntmps7
  go_wp2_with fail
  refine rc.mono ?_; rintro e w1 ⟨G, rfl, hG, hk, hb1⟩
  have b1s := hb1.size
  have gl := hk.lt
  clear rc
  go_wp2_with fail
  refine (New_c h hh w1 (ht.below hb1)).mono ?_; rintro e w2 ⟨g, rfl, hg, hs, hb2⟩
  have hB2 := hb1.trans (hb2.mono b1s)
  have hk2 := hk.below hb2 hk.lt
  have sG := blk_sl hk2 (by rw [← HL.out]; omega)
  rw [← HL.out] at sG
  have wc := Write_c g h [] (some ⟨G, 0, none⟩) (l + 9) xs w2 hs sG ux (own_ne (by omega)) (ht.below hB2)
  rw [← HL.out, List.nil_append] at wc
  have gw : w.heap.size ≤ g := by omega
  clear hk hb1 hb2 hs sG
  go_wp2_with fail
  refine wc.mono ?_; rintro e w3 ⟨rfl, hs3, hg3⟩
  have hk3 := hk2.grown hg3 (by simp; omega)
  have hB3 := below_then hB2 hg3 gw hB2.size
  have HLEN : Hid (xs.length = l) := Lib.hid HL.out.symm
  clear wc hk2 hg3 hB2
  go_wp2_with fail
  go_loopw [7] (fun t wr => ∃ (k : Nat) (z : List Int), k ≤ l ∧ t = .int .i64 (k : Int) ∧ z.length = l ∧ U8 z ∧ Blk wr G .u8 5 (z ++ m9) ∧ ShaSt wr g h xs ∧ Below w.heap.size w wr) (fun t _ => l - (intOf t).toNat)
  case atStart => exact ⟨0, xs, by omega, rfl, HLEN.out, ux, hk3, hs3, hB3⟩
  case round =>
    clear hk3 hs3 hB3
    obtain ⟨k, z, hk1, rfl, hzl, hu, hkb, hs, hb⟩ := hrel
    have ZL := Lib.hid hzl
    clear hzl
    by_cases hlt : k < l
    · have c0 := hkb.cell k (by rw [List.length_append, ZL.out]; omega)
      rw [nth_append_left _ _ _ (by rw [ZL.out]; exact hlt)] at c0
      have f0 := hkb.free k
      have ux1 := hu k
      obtain ⟨x, hx⟩ : ∃ x, x = nth z k := ⟨_, rfl⟩
      rw [← hx] at c0 ux1
      obtain ⟨y, hy⟩ : ∃ y, y = 255 - x := ⟨_, rfl⟩
      have hyw : IntKind.u8.wrap (255 - x) = y := by rw [IntKind.wrap_u8', hy]; omega
      have hym : (255 - x) % 256 = y := by rw [hy]; omega
      have y0 : 0 ≤ y ∧ y ≤ 255 := by omega
      have hs1 := hkb.set k y
      rw [List.set_append_left _ _ (by rw [ZL.out]; exact hlt)] at hs1
      have hs2 := hs.grown (grownBy_set wr ⟨G, k, none⟩ (.int .u8 y)) (by simp; omega)
      have hb' := hb.setCell (p := ⟨G, k, none⟩) hG (.int .u8 y)
      have hl2 : Hid ((z.set k y).length = l) := Lib.hid (by rw [List.length_set, ZL.out])
      have hu2 := InR.set hu k y0.1 y0.2
      have hin : (k : Int) < (l : Int) := by omega
      have hd1 : decide ((k : Int) < (l : Int)) = true := decide_eq_true hin
      clear hx hy hkb hb hs
      go_wp2_with fail
      go_roundw
      case rel => exact ⟨k + 1, _, by omega, by go_num, hl2.out, hu2, hs1, hs2, hb'⟩
      case measure => simp [intOf]; omega
    · obtain rfl : l = k := by omega
      have hd1 : decide ((l : Int) < (l : Int)) = false := by simp
      have htr := ht.below hb
      have sG := blk_sl hkb (by rw [ZL.out]; omega)
      rw [ZL.out] at sG
      have wc := Write_c g h xs (some ⟨G, 0, none⟩) (l + 9) z wr hs sG hu (own_ne (by omega)) htr
      rw [ZL.out] at wc
      clear hs sG
      go_wp2_with fail
      refine wc.mono ?_; rintro e w5 ⟨rfl, hs5, hg5⟩
      have hk5 := hkb.grown hg5 (by simp; omega)
      have hB5 := below_then hb hg5 gw hb.size
      have T := Lib.hid (rfl : xs ++ z = xs ++ z)
      clear wc hkb hg5
      go_wp2_with fail
      refine (StSum_c g h (xs ++ z) w5 hs5 (by rw [List.length_append, ZL.out, HLEN.out]; omega) (ht.below hB5)).mono ?_; rintro e w6 ⟨v, rfl, nA, hb6⟩
      obtain ⟨aA, cA, rfl, sA⟩ := nA.sl
      obtain ⟨A, hA⟩ : ∃ A, A = sha h (xs ++ z) := ⟨_, rfl⟩
      rw [← hA] at sA ⊢
      have uA : U8 A := by rw [hA]; exact sha_u8 _ _
      have hk6 := hk5.below hb6 hk5.lt
      have hB6 := hB5.trans (hb6.mono hB5.size)
      have sG6 := blk_sl hk6 (by rw [ZL.out]; omega)
      have s2 := Sum2_c h a (some ⟨G, 0, none⟩) cap (z.length + 9) xs z w6 (hx.below hB6) sG6 ux hu (by rw [ZL.out, HLEN.out]; omega) (ht.below hB6)
      rw [ZL.out, HLEN.out] at s2
      have HA := Lib.hid hA
      clear nA hA hs5 hk5 hk6 sG6
      go_wp2_with fail
      refine s2.mono ?_; rintro e w7 ⟨v, rfl, nB, hb7⟩
      obtain ⟨aB, cB, rfl, sB⟩ := nB.sl
      obtain ⟨B, hB⟩ : ∃ A, A = sha h (xs ++ z) := ⟨_, rfl⟩
      rw [← hB] at sB ⊢
      have uB : U8 B := by rw [hB]; exact sha_u8 _ _
      have cm := same4_c _ _ _ _ _ _ _ (sA.below hb7) sB uA uB
      rw [show decide (A = B) = true from decide_eq_true (by rw [HA.out, hB])] at cm
      have hB7 := hB6.trans (hb7.mono hB6.size)
      clear nB hB s2
      go_wp2_with fail
      refine cm.mono ?_; rintro e w8 ⟨rfl, hb8⟩
      go_wp2_with fail
      go_ret
      exact ⟨rfl, hB7.trans (hb8.mono hB7.size)⟩
end Go.Proofs.YtiookhggbloccaaDoor
