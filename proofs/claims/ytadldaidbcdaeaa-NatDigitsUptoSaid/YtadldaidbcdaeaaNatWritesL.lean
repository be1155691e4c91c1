/- signetlaw6.sameBytes and signetlaw6.NatWrites, its walk. -/
import Derived.Test.YtadldaidbcdaeaaRefJ
import Derived.Test.YtadldaidbcdaeaaLawSixB
set_option linter.unusedVariables false
set_option linter.unusedSimpArgs false
namespace Go.Proofs.Ytadldaidbcdaeaa
open Go.RowKit Go.Sg

set_option maxHeartbeats 1000000 in
theorem sameBytes_c (a a' : Option Addr) (cap cap' : Nat) (xs ys : List Int) (w : World) (hx : Sl .u8 w a cap xs) (hy : Sl .u8 w a' cap' ys) :
    Calls Try.prog 42 #[.slice a xs.length cap, .slice a' ys.length cap'] w (BoolPost (decide (xs = ys)) w) := by
  have hxm := Nat.le_trans hx.le hx.max
  have hym := Nat.le_trans hy.le hy.max
  by_cases hl : xs.length = ys.length
  · obtain ⟨n, hn⟩ : ∃ n, n = ys.length := ⟨_, rfl⟩
    have HN := Lib.hid hn
    have HX := Lib.hid (show xs.length = n by omega)
    rw [hl]
    rw [← hn] at hym ⊢
    clear hl hn hxm
    have hne : ((n : Int) != n) = false := by simp
    go_enter Try.func42, Try.ntmps42
    go_wp2_with fail
    go_loopw [5] (fun t wr => ∃ i : Nat, i ≤ n ∧ t = .int .i64 (i : Int) ∧ (∀ j, j < i → nth xs j = nth ys j) ∧ Dr w wr)
      (fun t _ => n - (intOf t).toNat)
    case atStart => exact ⟨0, by omega, rfl, fun j hj => by omega, .refl _⟩
    case round =>
      obtain ⟨i, hi, rfl, hall, nd, rfl⟩ := hrel
      have HA := Lib.hid hall
      clear hall
      by_cases hlt : i < n
      · obtain ⟨b, off, rfl, hcc⟩ := hx.cells (by have := HX.out; omega)
        obtain ⟨b', off', rfl, hcc'⟩ := hy.cells (by have := HN.out; omega)
        have c1 := hcc i (by have := HX.out; omega)
        have c2 := hcc' i (by have := HN.out; omega)
        clear hcc hcc'
        by_cases he : nth xs i = nth ys i
        · have HE := Lib.hid he
          have g1 : (nth xs i != nth ys i) = false := by rw [he]; simp
          clear he
          go_wp2_with fail
          go_quiet (fail)
          go_wp2_with fail
          go_roundw
          case rel => exact ⟨i + 1, by omega, by go_num, fun j hj => by
            by_cases h : j = i
            · rw [h]; exact HE.out
            · exact HA.out j (by omega), (by repeat (first | exact Dr.refl _ | apply Dr.drewN))⟩
          case measure => simp [intOf]; omega
        · have HE := Lib.hid (show decide (xs = ys) = false from decide_eq_false fun h => he (by rw [h]))
          have g1 : (nth xs i != nth ys i) = true := by simpa using he
          clear he
          go_wp2_with fail
          go_quiet (fail)
          go_wp2_with fail
          go_ret
          exact ⟨by rw [HE.out]; rfl, (by repeat (first | exact Dr.refl _ | apply Dr.drewN))⟩
      · have HE := Lib.hid (show decide (xs = ys) = true from decide_eq_true (eq_of_nth (by rw [HX.out, HN.out]) fun j hj => HA.out j (by have := HX.out; omega)))
        go_wp2_with fail
        go_ret
        exact ⟨by rw [HE.out]; rfl, nd, rfl⟩
  · have HE := Lib.hid (show decide (xs = ys) = false from decide_eq_false fun h => hl (by rw [h]))
    have hne : ((xs.length : Int) != ys.length) = true := by simp; omega
    clear hl
    go_enter Try.func42, Try.ntmps42
    go_wp2_with fail
    go_ret
    exact ⟨by rw [HE.out]; rfl, .refl _⟩


set_option maxHeartbeats 8000000 in
set_option maxRecDepth 100000 in
theorem NatWrites_c (a a' : Option Addr) (cap cap' : Nat) (bs xs : List Int) (u : Nat) (size i k : Int) (w : World) (gb : Sl .u8 w a cap bs) (hx : Sl .u32 w a' cap' xs) (ub : U8 bs) (ux : U32 xs) (hu : u < 18446744073709551616)
    (hsize : -9223372036854775808 ≤ size ∧ size ≤ 9223372036854775807) (hi : -9223372036854775808 ≤ i ∧ i ≤ 9223372036854775807) (hk : -9223372036854775808 ≤ k ∧ k ≤ 9223372036854775807) (hl : bs.length + xs.length ≤ 1048576) :
    Calls Try.prog 5 #[.slice a bs.length cap, .slice a' xs.length cap', .int .u64 (u : Int), .int .i64 size, .int .i64 i, .int .i64 k] w (TruePost w) := by
  go_enter Try.func5, Try.ntmps5
  have hB := Below.refl w.heap.size w
  go_wp2_with (at_builtin; refine wpList_append_new _ rfl _ _ 22 rfl w.heap.size 5 .u8 1 Try.underlying22 info8 _ [] rfl (New.nil _ _ _ _) _ _ _ bs rfl rfl gb.cells (by simp; omega) (by simp; omega) (Nat.le_refl _) ?_)
  intro v1 w1 hn1 hg1 _
  have hb : Below w.heap.size w w1 := (Below.refl _ _).grown hg1 (Nat.le_refl _) fun g hg => by simp [Value.ownBlock] at hg
  clear hg1
  replace hn1 : New w.heap.size .u8 5 w1 v1 bs := hn1
  obtain ⟨ag, cg, rfl, sg⟩ := hn1.sl
  clear hn1
  replace gb := gb.below hb
  replace hx := hx.below hb
  replace hB := hB.trans (hb.mono hB.size)
  clear hb
  go_wp2_with fail
  refine (copied_c _ _ _ _ hx (by omega)).mono ?_; rintro e w2 ⟨v1, rfl, hn, hb⟩
  replace gb := gb.below hb
  replace hx := hx.below hb
  replace sg := sg.below hb
  replace hB := hB.trans (hb.mono hB.size)
  clear hb
  obtain ⟨ax, cx, rfl, sx⟩ := hn.sl
  clear hn
  go_wp2_with fail
  refine (FromBytes_c _ _ _ _ sg ub (by omega)).mono ?_; rintro e w3 ⟨v1, rfl, hn, hb⟩
  replace gb := gb.below hb
  replace hx := hx.below hb
  replace sg := sg.below hb
  replace sx := sx.below hb
  replace hB := hB.trans (hb.mono hB.size)
  clear hb
  obtain ⟨adF, cpF, zF, rfl, sF, nF, uF, hv⟩ := hn.sl
  have vF := Lib.hid hv
  clear hv hn
  go_wp2_with fail
  refine (Bytes_c _ _ _ _ sx ux (by omega)).mono ?_; rintro e w4 ⟨v1, rfl, hn, hb⟩
  replace gb := gb.below hb
  replace hx := hx.below hb
  replace sg := sg.below hb
  replace sx := sx.below hb
  replace sF := sF.below hb
  replace hB := hB.trans (hb.mono hB.size)
  clear hb
  obtain ⟨adB, cpB, rfl, sB⟩ := hn.sl
  clear hn
  obtain ⟨zB, hz⟩ : ∃ z, z = beN (val xs) (blen (val xs)) := ⟨_, rfl⟩
  rw [← hz] at sB ⊢
  have vB := Lib.hid hz
  clear hz
  go_wp2_with fail
  refine (Fixed_c _ _ _ size _ sx ux (by omega) hsize).mono ?_; rintro e w5 ⟨v1, rfl, hn, hb⟩
  replace gb := gb.below hb
  replace hx := hx.below hb
  replace sg := sg.below hb
  replace sx := sx.below hb
  replace sF := sF.below hb
  replace sB := sB.below hb
  replace hB := hB.trans (hb.mono hB.size)
  clear hb
  obtain ⟨adX, cpX, rfl, sX⟩ := hn.sl
  clear hn
  obtain ⟨zX, hz⟩ : ∃ z, z = fixL (val xs) size := ⟨_, rfl⟩
  rw [← hz] at sX ⊢
  have vX := Lib.hid hz
  clear hz
  obtain ⟨fb, hfb⟩ : ∃ fb, fb = fitB (val xs) size := ⟨_, rfl⟩
  rw [← hfb]
  have HF := Lib.hid hfb
  clear hfb
  go_wp2_with fail
  refine (rFixed_c _ _ _ size _ hx ux (by omega) hsize).mono ?_; rintro e w6 ⟨v1, rfl, hn, hb⟩
  replace gb := gb.below hb
  replace hx := hx.below hb
  replace sg := sg.below hb
  replace sx := sx.below hb
  replace sF := sF.below hb
  replace sB := sB.below hb
  replace sX := sX.below hb
  replace hB := hB.trans (hb.mono hB.size)
  clear hb
  obtain ⟨adO, cpO, rfl, sO⟩ := hn.sl
  clear hn
  obtain ⟨zO, hz⟩ : ∃ z, z = fixL (val xs) size := ⟨_, rfl⟩
  rw [← hz] at sO ⊢
  have vO := Lib.hid hz
  clear hz
  rw [← HF.out]
  go_wp2_with fail
  refine (Uint_c _ _ _ _ sx ux).mono ?_; rintro e w7 ⟨rfl, rfl⟩
  obtain ⟨uv, huv⟩ : ∃ uv, uv = uintV (val xs) := ⟨_, rfl⟩
  obtain ⟨uu, huu⟩ : ∃ uu, uu = uintB (val xs) := ⟨_, rfl⟩
  rw [← huv, ← huu]
  have HUV := Lib.hid huv
  have HUU := Lib.hid huu
  clear huv huu
  go_wp2_with fail
  refine (rUint_c _ _ _ _ hx ux (by omega)).mono ?_; rintro e w7 ⟨rfl, hb⟩
  replace gb := gb.below hb
  replace hx := hx.below hb
  replace sg := sg.below hb
  replace sx := sx.below hb
  replace sF := sF.below hb
  replace sB := sB.below hb
  replace sX := sX.below hb
  replace sO := sO.below hb
  replace hB := hB.trans (hb.mono hB.size)
  clear hb
  rw [← HUV.out, ← HUU.out]
  go_wp2_with fail
  refine (FromUint_c _ _ hu).mono ?_; rintro e w8 ⟨v1, rfl, hn, hb⟩
  replace gb := gb.below hb
  replace hx := hx.below hb
  replace sg := sg.below hb
  replace sx := sx.below hb
  replace sF := sF.below hb
  replace sB := sB.below hb
  replace sX := sX.below hb
  replace sO := sO.below hb
  replace hB := hB.trans (hb.mono hB.size)
  clear hb
  obtain ⟨adU, cpU, zU, rfl, sU, nU, uU, hv⟩ := hn.res.sl
  have vU := Lib.hid hv
  clear hv hn
  go_wp2_with fail
  refine (Shl_c _ _ _ k _ sx ux (by omega) hk).mono ?_; rintro e w9 ⟨v1, rfl, hn, hb⟩
  replace gb := gb.below hb
  replace hx := hx.below hb
  replace sg := sg.below hb
  replace sx := sx.below hb
  replace sF := sF.below hb
  replace sB := sB.below hb
  replace sX := sX.below hb
  replace sO := sO.below hb
  replace sU := sU.below hb
  replace hB := hB.trans (hb.mono hB.size)
  clear hb
  obtain ⟨adS, cpS, zS, rfl, sS, nS, uS, hv⟩ := hn.sl
  have vS := Lib.hid hv
  clear hv hn
  go_wp2_with fail
  refine (Shr_c _ _ _ k _ sx ux (by omega) hk).mono ?_; rintro e w10 ⟨v1, rfl, hn, hb⟩
  replace gb := gb.below hb
  replace hx := hx.below hb
  replace sg := sg.below hb
  replace sx := sx.below hb
  replace sF := sF.below hb
  replace sB := sB.below hb
  replace sX := sX.below hb
  replace sO := sO.below hb
  replace sU := sU.below hb
  replace sS := sS.below hb
  replace hB := hB.trans (hb.mono hB.size)
  clear hb
  obtain ⟨adD, cpD, zD, rfl, sD, nD, uD, hv⟩ := hn.sl
  have vD := Lib.hid hv
  clear hv hn
  have e1 : (fb != fb) = false := by simp
  have e2 : (uv != uv) = false := by simp
  have e3 : (uu != uu) = false := by simp
  go_wp2_with fail
  refine (sameBytes_c _ _ _ _ _ _ _ sg gb).mono ?_; rintro e w11 ⟨rfl, hb⟩
  replace gb := gb.below hb.b
  replace hx := hx.below hb.b
  replace sg := sg.below hb.b
  replace sx := sx.below hb.b
  replace sF := sF.below hb.b
  replace sB := sB.below hb.b
  replace sX := sX.below hb.b
  replace sO := sO.below hb.b
  replace sU := sU.below hb.b
  replace sS := sS.below hb.b
  replace sD := sD.below hb.b
  replace hB := hB.trans (hb.b.mono hB.size)
  clear hb
  rw [show decide (bs = bs) = true from decide_eq_true rfl]
  go_wp2_with fail
  refine (rBytes_c _ _ _ _ hx ux (by omega)).mono ?_; rintro e w12 ⟨v1, rfl, hn, hb⟩
  replace gb := gb.below hb
  replace hx := hx.below hb
  replace sg := sg.below hb
  replace sx := sx.below hb
  replace sF := sF.below hb
  replace sB := sB.below hb
  replace sX := sX.below hb
  replace sO := sO.below hb
  replace sU := sU.below hb
  replace sS := sS.below hb
  replace sD := sD.below hb
  replace hB := hB.trans (hb.mono hB.size)
  clear hb
  obtain ⟨adC, cpC, rfl, sC⟩ := hn.sl
  clear hn
  obtain ⟨zC, hz⟩ : ∃ z, z = beN (val xs) (blen (val xs)) := ⟨_, rfl⟩
  rw [← hz] at sC ⊢
  have vC := Lib.hid hz
  clear hz
  go_wp2_with fail
  refine (sameBytes_c _ _ _ _ _ _ _ sB sC).mono ?_; rintro e w13 ⟨rfl, hb⟩
  replace gb := gb.below hb.b
  replace hx := hx.below hb.b
  replace sg := sg.below hb.b
  replace sx := sx.below hb.b
  replace sF := sF.below hb.b
  replace sB := sB.below hb.b
  replace sX := sX.below hb.b
  replace sO := sO.below hb.b
  replace sU := sU.below hb.b
  replace sS := sS.below hb.b
  replace sD := sD.below hb.b
  replace sC := sC.below hb.b
  replace hB := hB.trans (hb.b.mono hB.size)
  clear hb
  rw [show decide (zB = zC) = true from decide_eq_true (by rw [vB.out, vC.out])]
  go_wp2_with fail
  refine (sameBytes_c _ _ _ _ _ _ _ sX sO).mono ?_; rintro e w14 ⟨rfl, hb⟩
  replace gb := gb.below hb.b
  replace hx := hx.below hb.b
  replace sg := sg.below hb.b
  replace sx := sx.below hb.b
  replace sF := sF.below hb.b
  replace sB := sB.below hb.b
  replace sX := sX.below hb.b
  replace sO := sO.below hb.b
  replace sU := sU.below hb.b
  replace sS := sS.below hb.b
  replace sD := sD.below hb.b
  replace sC := sC.below hb.b
  replace hB := hB.trans (hb.b.mono hB.size)
  clear hb
  rw [show decide (zX = zO) = true from decide_eq_true (by rw [vX.out, vO.out])]
  clear sX
  clear sO
  clear sB
  clear sC
  go_wp2_with fail
  refine (rFromBytes_c _ _ _ _ gb ub (by omega)).mono ?_; rintro e w15 ⟨v1, rfl, hn, hb⟩
  replace gb := gb.below hb
  replace hx := hx.below hb
  replace sg := sg.below hb
  replace sx := sx.below hb
  replace sF := sF.below hb
  replace sU := sU.below hb
  replace sS := sS.below hb
  replace sD := sD.below hb
  replace hB := hB.trans (hb.mono hB.size)
  clear hb
  obtain ⟨adG, cpG, zG, rfl, sG, nG, uG, hv⟩ := hn.sl
  have vG := Lib.hid hv
  clear hv hn
  go_wp2_with fail
  refine (rSame_c _ _ _ _ _ _ _ sF sG).mono ?_; rintro e w16 ⟨rfl, hb⟩
  replace gb := gb.below hb.b
  replace hx := hx.below hb.b
  replace sg := sg.below hb.b
  replace sx := sx.below hb.b
  replace sF := sF.below hb.b
  replace sU := sU.below hb.b
  replace sS := sS.below hb.b
  replace sD := sD.below hb.b
  replace sG := sG.below hb.b
  replace hB := hB.trans (hb.b.mono hB.size)
  clear hb
  rw [same_val nF nG uF uG (by rw [vF.out, vG.out])]
  clear sF
  clear sG
  go_wp2_with fail
  refine (rFromUint_c _ _ hu).mono ?_; rintro e w17 ⟨v1, rfl, hn, hb⟩
  replace gb := gb.below hb
  replace hx := hx.below hb
  replace sg := sg.below hb
  replace sx := sx.below hb
  replace sU := sU.below hb
  replace sS := sS.below hb
  replace sD := sD.below hb
  replace hB := hB.trans (hb.mono hB.size)
  clear hb
  obtain ⟨adV, cpV, zV, rfl, sV, nV, uV, hv⟩ := hn.sl
  have vV := Lib.hid hv
  clear hv hn
  go_wp2_with fail
  refine (rSame_c _ _ _ _ _ _ _ sU sV).mono ?_; rintro e w18 ⟨rfl, hb⟩
  replace gb := gb.below hb.b
  replace hx := hx.below hb.b
  replace sg := sg.below hb.b
  replace sx := sx.below hb.b
  replace sU := sU.below hb.b
  replace sS := sS.below hb.b
  replace sD := sD.below hb.b
  replace sV := sV.below hb.b
  replace hB := hB.trans (hb.b.mono hB.size)
  clear hb
  rw [same_val nU nV uU uV (by rw [vU.out, vV.out])]
  clear sU
  clear sV
  go_wp2_with fail
  refine (rShl_c _ _ _ k _ hx ux (by omega) hk).mono ?_; rintro e w19 ⟨v1, rfl, hn, hb⟩
  replace gb := gb.below hb
  replace hx := hx.below hb
  replace sg := sg.below hb
  replace sx := sx.below hb
  replace sS := sS.below hb
  replace sD := sD.below hb
  replace hB := hB.trans (hb.mono hB.size)
  clear hb
  obtain ⟨adT, cpT, zT, rfl, sT, nT, uT, hv⟩ := hn.sl
  have vT := Lib.hid hv
  clear hv hn
  go_wp2_with fail
  refine (rSame_c _ _ _ _ _ _ _ sS sT).mono ?_; rintro e w20 ⟨rfl, hb⟩
  replace gb := gb.below hb.b
  replace hx := hx.below hb.b
  replace sg := sg.below hb.b
  replace sx := sx.below hb.b
  replace sS := sS.below hb.b
  replace sD := sD.below hb.b
  replace sT := sT.below hb.b
  replace hB := hB.trans (hb.b.mono hB.size)
  clear hb
  rw [same_val nS nT uS uT (by rw [vS.out, vT.out])]
  clear sS
  clear sT
  go_wp2_with fail
  refine (rShr_c _ _ _ k _ hx ux (by omega) hk).mono ?_; rintro e w21 ⟨v1, rfl, hn, hb⟩
  replace gb := gb.below hb
  replace hx := hx.below hb
  replace sg := sg.below hb
  replace sx := sx.below hb
  replace sD := sD.below hb
  replace hB := hB.trans (hb.mono hB.size)
  clear hb
  obtain ⟨adE, cpE, zE, rfl, sE, nE, uE, hv⟩ := hn.sl
  have vE := Lib.hid hv
  clear hv hn
  go_wp2_with fail
  refine (rSame_c _ _ _ _ _ _ _ sD sE).mono ?_; rintro e w22 ⟨rfl, hb⟩
  replace gb := gb.below hb.b
  replace hx := hx.below hb.b
  replace sg := sg.below hb.b
  replace sx := sx.below hb.b
  replace sD := sD.below hb.b
  replace sE := sE.below hb.b
  replace hB := hB.trans (hb.b.mono hB.size)
  clear hb
  rw [same_val nD nE uD uE (by rw [vD.out, vE.out])]
  clear sD
  clear sE
  go_wp2_with fail
  refine (rSame_c _ _ _ _ _ _ _ sx hx).mono ?_; rintro e w23 ⟨rfl, hb⟩
  replace gb := gb.below hb.b
  replace hx := hx.below hb.b
  replace sg := sg.below hb.b
  replace sx := sx.below hb.b
  replace hB := hB.trans (hb.b.mono hB.size)
  clear hb
  rw [show decide (xs = xs) = true from decide_eq_true rfl]
  go_wp2_with fail
  refine (Bits_c _ _ _ _ sx ux (by omega)).mono ?_; rintro e w24 ⟨rfl, rfl⟩
  obtain ⟨bx, hbx⟩ : ∃ bx, bx = bl (val xs) := ⟨_, rfl⟩
  rw [← hbx]
  have HBX := Lib.hid hbx
  clear hbx
  have e4 : ((bx : Int) == bx) = true := by simp
  go_wp2_with fail
  refine (rBits_c _ _ _ _ hx ux (by omega)).mono ?_; rintro e w24 ⟨rfl, hb⟩
  replace gb := gb.below hb
  replace hx := hx.below hb
  replace sg := sg.below hb
  replace sx := sx.below hb
  replace hB := hB.trans (hb.mono hB.size)
  clear hb
  rw [← HBX.out]
  go_wp2_with fail
  refine (Bit_c _ _ _ i _ sx ux hi).mono ?_; rintro e w25 ⟨rfl, hb⟩
  replace gb := gb.below hb.b
  replace hx := hx.below hb.b
  replace sg := sg.below hb.b
  replace sx := sx.below hb.b
  replace hB := hB.trans (hb.b.mono hB.size)
  clear hb
  obtain ⟨bb, hbb⟩ : ∃ bb, bb = bitB (val xs) i := ⟨_, rfl⟩
  rw [← hbb]
  have HBB := Lib.hid hbb
  clear hbb
  have e5 : (bb == bb) = true := by simp
  go_wp2_with fail
  refine (rBit_c _ _ _ i _ hx ux hi).mono ?_; rintro e w26 ⟨rfl, hb⟩
  replace gb := gb.below hb.b
  replace hx := hx.below hb.b
  replace sg := sg.below hb.b
  replace sx := sx.below hb.b
  replace hB := hB.trans (hb.b.mono hB.size)
  clear hb
  rw [← HBB.out]
  go_wp2_with fail
  go_ret
  exact ⟨rfl, hB⟩
end Go.Proofs.Ytadldaidbcdaeaa
