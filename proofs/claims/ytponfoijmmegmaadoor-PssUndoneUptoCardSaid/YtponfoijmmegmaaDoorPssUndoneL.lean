/- signetlaw10.PssUndone by its contract. (Printed by gen_pssundone.py.) -/
import Derived.Test.YtponfoijmmegmaaDoorPssV
import Derived.Test.YtponfoijmmegmaaDoorPssT
set_option linter.unusedVariables false
set_option linter.unusedSimpArgs false
namespace Go.Sg
open Go.RowKit
theorem ecode_zero {h n : Int} {d s : List Int} (e : ecode h d s n = 0) : IsHash h ∧ (0 ≤ n ∧ n ≤ 65536) ∧ encFits h d s n.toNat := by
  unfold ecode at e
  by_cases h1 : IsHash h
  · rw [if_pos h1] at e
    by_cases h2 : 0 ≤ n ∧ n ≤ 65536
    · rw [if_pos h2] at e
      by_cases h3 : encFits h d s n.toNat
      · exact ⟨h1, h2, h3⟩
      · rw [if_neg h3] at e; omega
    · rw [if_neg h2] at e; omega
  · rw [if_neg h1] at e; omega
theorem eres_none {h n : Int} {d s : List Int} (e : ¬ ecode h d s n = 0) : eres h d s n = [] := by
  unfold eres
  refine if_neg fun k => e ?_
  unfold ecode
  rw [if_pos k.1, if_pos k.2.1, if_pos k.2.2]
theorem eres_some {h n : Int} {d s : List Int} (e : ecode h d s n = 0) : eres h d s n = encOf h d s n.toNat := by
  unfold eres
  exact if_pos (ecode_zero e)
theorem holds_nil (h n : Int) (d : List Int) : decide (holdsOf h d [] n) = false := decide_eq_false fun k => by
  have h1 := k.2.2.2.1
  have h2 := k.2.2.2.2.1
  rw [List.length_nil] at h1
  omega
theorem u8_xor_u8 (x y : Int) : 0 ≤ bits .xor .u8 x y ∧ bits .xor .u8 x y ≤ 255 := bx_u8 x y
end Go.Sg
namespace Go.Proofs.YtponfoijmmegmaaDoor
open Go.RowKit Go.Sg

set_option maxHeartbeats 8000000 in
set_option maxRecDepth 20000 in
theorem PssUndone_c (h n at' : Int) (a a' a2 : Option Addr) (cap cap' c2 : Nat) (m o s : List Int) (w : World) (hx : Sl .u8 w a cap m) (ux : U8 m) (hy : Sl .u8 w a' cap' o) (uy : U8 o) (hs : Sl .u8 w a2 c2 s) (us : U8 s) (ba : -9223372036854775808 ≤ at' ∧ at' ≤ 9223372036854775807) (hz : m.length + o.length + s.length ≤ 1048576) (ht : ShaTabs w) :
    Calls Tryd.prog 7 #[.int .i64 h, .slice a m.length cap, .slice a' o.length cap', .slice a2 s.length c2, .int .i64 n, .int .i64 at'] w (TruePost w) := by
  have ht0 := ht
  have lm : m.length ≤ 1048576 := by omega
  have lo : o.length ≤ 1048576 := by omega
  obtain ⟨q, hq⟩ : ∃ l, l = s.length := ⟨_, rfl⟩
  have ls : q ≤ 1048576 := by omega
  have SL := Lib.hid hq
  obtain ⟨z, hzz⟩ : ∃ z, z = shaSize h := ⟨_, rfl⟩
  have z64 : z ≤ 64 := by rw [hzz]; exact shaSize_le h
  have HZ := Lib.hid hzz
  rw [← hq]
  clear hq hzz hz
  go_enter Tryd.func7, Tryd.ntmps7
  have hB := Below.refl w.heap.size w
  go_wp2_with fail
  refine (awake_c w ht).mono ?_; rintro e w1 ⟨rfl, hb⟩
  replace hx := hx.below hb
  replace hy := hy.below hb
  replace hs := hs.below hb
  replace ht := ht.below hb
  replace hB := hB.trans (hb.mono hB.size)
  clear hb
  go_wp2_with fail
  refine (Sum1_c h a cap m _ hx ux (by omega) ht).mono ?_; rintro e w2 ⟨vD, rfl, nD, hb⟩
  replace hx := hx.below hb
  replace hy := hy.below hb
  replace hs := hs.below hb
  replace ht := ht.below hb
  replace hB := hB.trans (hb.mono hB.size)
  clear hb
  obtain ⟨aD, cD, rfl, sD⟩ := nD.sl
  clear nD
  obtain ⟨zD, hD⟩ : ∃ z, z = sha h m := ⟨_, rfl⟩
  rw [← hD] at sD ⊢
  have uD : U8 zD := by rw [hD]; exact sha_u8 _ _
  have eD := Lib.hid hD
  clear hD
  clear hx
  have lD : Hid (zD.length = z) := Lib.hid (by rw [eD.out, sha_len, HZ.out])
  rw [lD.out]
  have pe := pEncode_c h n aD a2 cD c2 zD s _ sD hs uD us (by rw [lD.out, ← SL.out]; omega) ht
  rw [lD.out, ← SL.out] at pe
  unfold EncPost at pe
  obtain ⟨C, hC⟩ : ∃ C, C = ecode h zD s n := ⟨_, rfl⟩
  rw [← hC] at pe
  go_wp2_with fail
  refine (pe).mono ?_; rintro e w3 ⟨vM, rfl, nM, hb⟩
  replace hy := hy.below hb
  replace hs := hs.below hb
  replace ht := ht.below hb
  replace sD := sD.below hb
  replace hB := hB.trans (hb.mono hB.size)
  clear hb
  obtain ⟨aM, cM, rfl, sM⟩ := nM.sl
  clear nM pe
  obtain ⟨zM, hM⟩ : ∃ z, z = eres h zD s n := ⟨_, rfl⟩
  rw [← hM] at sM ⊢
  have uM : U8 zM := by rw [hM]; exact eres_u8 us
  have eM := Lib.hid hM
  clear hM
  by_cases hc0 : C = 0
  · have ez := ecode_zero (hC.symm.trans hc0)
    obtain ⟨hh, hn, hf0⟩ := ez
    have hM0 : Hid (zM = encOf h zD s n.toNat) := Lib.hid (by rw [eM.out]; exact eres_some (hC.symm.trans hc0))
    obtain ⟨b, rfl⟩ : ∃ N : Nat, n = (N : Int) := ⟨n.toNat, by omega⟩
    rw [Int.toNat_natCast] at hf0
    have hM1 : Hid (zM = encOf h zD s b) := Lib.hid (by have := hM0.out; rwa [Int.toNat_natCast] at this)
    subst hc0
    have nb : b ≤ 65536 := by omega
    have FT := Lib.hid hf0
    obtain ⟨E, hE⟩ : ∃ E, E = encLen b := ⟨_, rfl⟩
    have HE := Lib.hid hE
    have eb : E ≤ 8192 := by rw [hE]; unfold encLen; omega
    have q0 : ((b : Int) + 7) / 8 = (E : Int) := by rw [hE]; unfold encLen; omega
    have q1 : ((b : Int) + 7).tdiv 8 = (E : Int) := by rw [Int.tdiv_eq_ediv_of_nonneg (by omega)]; exact q0
    have z0 : 0 < z := by rw [HZ.out]; exact hh.size_le.2.1
    have zE : z + q + 2 ≤ E := by rw [hE, SL.out, HZ.out]; exact hf0.2
    have lM0 : zM.length = E := by rw [hM1.out, hE]; exact encOf_len hf0
    have lM := Lib.hid lM0
    obtain ⟨E1, hE1⟩ : ∃ e, e + 1 = E := ⟨E - 1, by omega⟩
    obtain ⟨e1, he1⟩ : ∃ e, e + z + 1 = E := ⟨E - z - 1, by omega⟩
    have lB : (encBlk h zD s b e1).length = e1 := encBlk_len (by rw [← SL.out]; omega)
    have x4 : (E : Int) - 1 = (E1 : Int) := by omega
    have eM2 : Hid (zM = encBlk h zD s b e1 ++ (encSum h zD s ++ [188])) := Lib.hid (by rw [hM1.out]; unfold encOf; rw [← HE.out, ← HZ.out, show E - z - 1 = e1 by omega])
    have m1 : nth zM E1 = 188 := by
      have h1 := nth_append_right (encBlk h zD s b e1) (encSum h zD s ++ [188]) z
      have h2 := nth_append_right (encSum h zD s) [188] 0
      rw [lB] at h1
      rw [encSum_len, ← HZ.out, Nat.add_zero] at h2
      rw [eM2.out, show E1 = e1 + z by omega]
      exact h1.trans h2
    obtain ⟨bM, oM, eaM, kM⟩ := sM.cells (by rw [lM0]; omega)
    subst eaM
    have cL := kM E1 (by rw [lM0]; omega)
    rw [m1] at cL
    have cF := kM 0 (by rw [lM0]; omega)
    rw [Nat.add_zero] at cF
    obtain ⟨x, hx0⟩ : ∃ x, x = nth zM 0 := ⟨_, rfl⟩
    rw [← hx0] at cF
    have hfirst : Hid (¬ b % 8 = 0 → 0 ≤ x ∧ x < 2 ^ (b % 8)) := Lib.hid fun hr => by
      rw [hx0, eM2.out]
      exact enc_first h zD s b e1 _ (by rw [← SL.out]; omega) hr
    have i0 : (0 : Int) < (E : Int) := by omega
    have i1 : (E1 : Int) < (E : Int) := by omega
    have i2 : (0 : Int) ≤ (E1 : Int) := by omega
    have gE : ((E : Int) != (E : Int)) = false := by simp
    rw [lM0]
    obtain ⟨r, hr⟩ : ∃ r, r = b % 8 := ⟨_, rfl⟩
    have r8 : r < 8 := by omega
    have tm : (b : Int).tmod 8 = (r : Int) := by rw [Int.tmod_eq_emod_of_nonneg (by omega)]; omega
    have em : (b : Int) % 8 = (r : Int) := by omega
    rw [← hr] at hfirst
    have HR := Lib.hid hr
    have sz := fun W => Size_c h W
    rw [← HZ.out] at sz
    have ph := fun (X : List Int) (lX : X.length = z) (uX : U8 X) W a1 c1 (sx : Sl .u8 W a1 c1 X) (sm : Sl .u8 W (some ⟨bM, oM, none⟩) cM zM) (t : ShaTabs W) => pHolds_c h (b : Int) a1 (some ⟨bM, oM, none⟩) c1 cM X zM W sx sm uX uM (by rw [lX, lM.out]; omega) t
    have lk := fun W (sx : Sl .u8 W aD cD zD) (sm : Sl .u8 W (some ⟨bM, oM, none⟩) cM zM) (t : ShaTabs W) => lucky_c h hh b nb aD (some ⟨bM, oM, none⟩) cD cM zD zM W sx sm uD uM (by rw [lD.out, HZ.out]) (by rw [lM.out, HE.out]) t
    have ph1 := ph zD lD.out uD
    unfold TellPost at ph ph1 lk
    rw [lM.out] at ph ph1 lk
    rw [lD.out] at ph1 lk
    have HM1 : Hid (q = z → decide (holdsOf h zD zM (b : Int)) = true) := Lib.hid fun e => decide_eq_true (by
      rw [hM1.out]; exact holds_enc hh zD s b nb hf0 (by rw [← SL.out, e, HZ.out]) us)
    obtain ⟨H, hH⟩ : ∃ H, H = decide (holdsOf h zD zM (b : Int)) := ⟨_, rfl⟩
    rw [← hH] at ph1 lk HM1
    clear hH
    clear hM0 hC hf0 hn hE lM0 lB m1 kM hx0 hr eM
    have key : ∀ Q : Prop, Q → Q := fun _ q => q
    clear key
    have tail : ∀ W : World, True := fun _ => trivial
    clear tail
    by_cases hr0 : r = 0
    · have gr : ((r : Int) != (0 : Int)) = false := by rw [hr0]; simp
      go_wp2_with fail
      refine (sz _).mono ?_; rintro e' w' ⟨rfl, rfl⟩
      by_cases hqz : q = z
      · have gq : ((z : Int) == (z : Int)) = true := by simp
        have hHt := HM1.out hqz
        subst hqz
        subst hHt
        go_wp2_with fail
        refine (ph1 _ aD cD sD sM ht).mono ?_; rintro e w4 ⟨rfl, hb⟩
        replace hy := hy.below hb
        replace hs := hs.below hb
        replace ht := ht.below hb
        replace sD := sD.below hb
        replace sM := sM.below hb
        replace hB := hB.trans (hb.mono hB.size)
        clear hb
        clear ph1 lk HM1
        go_wp2_with fail
        refine (Sum1_c h a' cap' o _ hy uy (by omega) ht).mono ?_; rintro e w5 ⟨vF, rfl, nF, hb⟩
        replace hy := hy.below hb
        replace hs := hs.below hb
        replace ht := ht.below hb
        replace sD := sD.below hb
        replace sM := sM.below hb
        replace hB := hB.trans (hb.mono hB.size)
        clear hb
        obtain ⟨aF, cF, rfl, sF⟩ := nF.sl
        clear nF
        obtain ⟨zF, hF⟩ : ∃ z, z = sha h o := ⟨_, rfl⟩
        rw [← hF] at sF ⊢
        have uF : U8 zF := by rw [hF]; exact sha_u8 _ _
        have eF := Lib.hid hF
        clear hF
        clear hy
        have lF : Hid (zF.length = q) := Lib.hid (by rw [eF.out, sha_len, HZ.out])
        rw [lF.out]
        have ph2 := ph zF lF.out uF
        rw [lF.out] at ph2
        clear ph
        obtain ⟨H2, hH2⟩ : ∃ H, H = decide (holdsOf h zF zM (b : Int)) := ⟨_, rfl⟩
        rw [← hH2] at ph2
        have HH2 := Lib.hid hH2
        clear hH2
        go_wp2_with fail
        refine (ph2 _ aF cF sF sM ht).mono ?_; rintro e w6 ⟨rfl, hb⟩
        replace hs := hs.below hb
        replace ht := ht.below hb
        replace sD := sD.below hb
        replace sM := sM.below hb
        replace sF := sF.below hb
        replace hB := hB.trans (hb.mono hB.size)
        clear hb
        clear ph2
        cases hv2 : H2 with
        | false =>
          subst hv2
          by_cases hat : at' < 0
          · have ga : decide (at' < 0) = true := decide_eq_true hat
            go_wp2_with fail
            go_ret
            exact ⟨rfl, hB⟩
          · have ga : decide (at' < 0) = false := decide_eq_false hat
            obtain ⟨A, rfl⟩ : ∃ A : Nat, at' = (A : Int) := ⟨at'.toNat, by omega⟩
            obtain ⟨K, hK⟩ : ∃ K, K = A % (8 * E) := ⟨_, rfl⟩
            have KE : K < 8 * E := by rw [hK]; exact Nat.mod_lt _ (by omega)
            have rm2 : (A : Int) % (8 * (E : Int)) = (K : Int) := by rw [hK, Int.natCast_emod, Int.natCast_mul]; rfl
            have rm : (A : Int).tmod (8 * (E : Int)) = (K : Int) := by rw [Int.tmod_eq_emod_of_nonneg (by omega)]; exact rm2
            have n8 : ((8 * (E : Int)) == 0) = false := beq_false_of_ne (by omega)
            have n9 : ((8 * (E : Int)) == -1) = false := beq_false_of_ne (by omega)
            have n10 : ¬ (E : Int) = 0 := by omega
            have w8 : IntKind.i64.wrap (8 * (E : Int)) = 8 * (E : Int) := by rw [IntKind.wrap_i64]; omega
            obtain ⟨j, hj⟩ : ∃ j, j = K / 8 := ⟨_, rfl⟩
            obtain ⟨t, htt⟩ : ∃ t, t = K % 8 := ⟨_, rfl⟩
            have jE : j < E := by omega
            have t8 : t < 8 := by omega
            have dj : (K : Int).tdiv 8 = (j : Int) := by rw [Int.tdiv_eq_ediv_of_nonneg (by omega)]; omega
            have dj2 : (K : Int) / 8 = (j : Int) := by omega
            have dt : (K : Int).tmod 8 = (t : Int) := by rw [Int.tmod_eq_emod_of_nonneg (by omega)]; omega
            have dt2 : (K : Int) % 8 = (t : Int) := by omega
            have rc := roomy_c (some ⟨bM, oM, none⟩) cM zM _ sM (by rw [lM.out]; omega)
            unfold RoomPost at rc
            rw [lM.out] at rc
            clear hK hj htt KE
            have sD0 := sD
            have hBs := hB.size
            go_wp2_with fail
            refine (rc).mono ?_; rintro e w7 ⟨g, rfl, hg, k1, hb⟩
            replace hs := hs.below hb
            replace ht := ht.below hb
            replace sD := sD.below hb
            replace sM := sM.below hb
            replace sF := sF.below hb
            replace hB := hB.trans (hb.mono hB.size)
            clear hb
            clear rc
            have apD := sD0.apart hg
            clear sD0
            have ag := hB.size
            have c1 := k1.cell j (by rw [List.length_append, lM.out]; omega)
            rw [nth_append_left _ _ _ (by rw [lM.out]; exact jE)] at c1
            have f1 := k1.free j
            obtain ⟨y, hy1⟩ : ∃ y, y = nth zM j := ⟨_, rfl⟩
            rw [← hy1] at c1
            have jE2 : (j : Int) < (E : Int) := by omega
            have w64 : IntKind.u64.wrap (t : Int) = (t : Int) := by rw [IntKind.wrap_u64]; omega
            obtain ⟨v, hv⟩ : ∃ v, v = bits .xor .u8 y ((2 : Int) ^ t % 256) := ⟨_, rfl⟩
            have hve : bits .xor .u8 y ((2 : Int) ^ t % 256) = v := hv.symm
            have v0 : 0 ≤ v ∧ v ≤ 255 := by rw [hv]; exact u8_xor_u8 _ _
            have k2 := k1.set j v
            rw [List.set_append_left _ _ (by rw [lM.out]; exact jE)] at k2
            obtain ⟨X, hX⟩ : ∃ X, X = zM.set j v := ⟨_, rfl⟩
            rw [← hX] at k2
            have lX : Hid (X.length = E) := Lib.hid (by rw [hX, List.length_set, lM.out])
            have uX : U8 X := by rw [hX]; exact InR.set uM j v0.1 v0.2
            have hgs := grownBy_set w7 ⟨g, j, none⟩ (.int .u8 v)
            have sD2 := sD.grown' hgs (fun b off ha hp e => apD b off ha hp (Option.some.inj e))
            have ht2 := ht.grown hgs (Nat.le_trans ht0.top (Nat.le_trans hBs hg))
            have hB2 := hB.setCell (p := ⟨g, j, none⟩) (Nat.le_trans hBs hg) (.int .u8 v)
            have sX := blk_sl k2 (by rw [lX.out]; omega)
            rw [lX.out] at sX
            have ph3 := pHolds_c h (b : Int) aD (some ⟨g, 0, none⟩) cD (E + 9) zD X _ sD2 sX uD uX (by rw [lD.out, lX.out]; omega) ht2
            rw [lD.out, lX.out] at ph3
            have lk3 := fun W (sx : Sl .u8 W aD cD zD) (sm : Sl .u8 W (some ⟨g, 0, none⟩) (E + 9) X) (t : ShaTabs W) => lucky_c h hh b nb aD (some ⟨g, 0, none⟩) cD (E + 9) zD X W sx sm uD uX (by rw [lD.out, HZ.out]) (by rw [lX.out, HE.out]) t
            unfold TellPost at ph3 lk3
            rw [lD.out, lX.out] at lk3
            obtain ⟨H3, hH3⟩ : ∃ H, H = decide (holdsOf h zD X (b : Int)) := ⟨_, rfl⟩
            rw [← hH3] at ph3 lk3
            clear hH3 hX hv hy1 k2
            go_wp2_with fail
            refine ph3.mono ?_; rintro e' w8 ⟨rfl, hb8⟩
            have hB8 := hB2.trans (hb8.mono hB2.size)
            clear ph3
            cases hv3 : H3 with
            | false =>
              subst hv3
              go_wp2_with fail
              go_ret
              exact ⟨rfl, hB8⟩
            | true =>
              subst hv3
              go_wp2_with fail
              refine (lk3 _ (sD2.below hb8) (sX.below hb8) (ht2.below hb8)).mono ?_; rintro e' w9 ⟨rfl, hb9⟩
              go_wp2_with fail
              go_ret
              exact ⟨rfl, hB8.trans (hb9.mono hB8.size)⟩
        | true =>
          have hcl : Hid (encSum h zD s = encSum h zF s) := Lib.hid (by
            have k : holdsOf h zF zM (b : Int) := of_decide_eq_true (HH2.out.symm.trans hv2)
            rw [hM1.out] at k
            exact holds_clash hh zD zF s b FT.out (by rw [← SL.out, HZ.out]) us k)
          subst hv2
          have cm := same10_c _ _ _ _ _ _ _ sF sD uF uD
          rw [lF.out, lD.out] at cm
          unfold TellPost at cm
          obtain ⟨S, hS⟩ : ∃ S, S = decide (zF = zD) := ⟨_, rfl⟩
          rw [← hS] at cm
          clear hS
          go_wp2_with fail
          refine (cm).mono ?_; rintro e w7 ⟨rfl, hb⟩
          replace hs := hs.below hb
          replace ht := ht.below hb
          replace sD := sD.below hb
          replace sM := sM.below hb
          replace sF := sF.below hb
          replace hB := hB.trans (hb.mono hB.size)
          clear hb
          clear cm
          cases hv3 : S with
          | true =>
            subst hv3
            by_cases hat : at' < 0
            · have ga : decide (at' < 0) = true := decide_eq_true hat
              go_wp2_with fail
              go_ret
              exact ⟨rfl, hB⟩
            · have ga : decide (at' < 0) = false := decide_eq_false hat
              obtain ⟨A, rfl⟩ : ∃ A : Nat, at' = (A : Int) := ⟨at'.toNat, by omega⟩
              obtain ⟨K, hK⟩ : ∃ K, K = A % (8 * E) := ⟨_, rfl⟩
              have KE : K < 8 * E := by rw [hK]; exact Nat.mod_lt _ (by omega)
              have rm2 : (A : Int) % (8 * (E : Int)) = (K : Int) := by rw [hK, Int.natCast_emod, Int.natCast_mul]; rfl
              have rm : (A : Int).tmod (8 * (E : Int)) = (K : Int) := by rw [Int.tmod_eq_emod_of_nonneg (by omega)]; exact rm2
              have n8 : ((8 * (E : Int)) == 0) = false := beq_false_of_ne (by omega)
              have n9 : ((8 * (E : Int)) == -1) = false := beq_false_of_ne (by omega)
              have n10 : ¬ (E : Int) = 0 := by omega
              have w8 : IntKind.i64.wrap (8 * (E : Int)) = 8 * (E : Int) := by rw [IntKind.wrap_i64]; omega
              obtain ⟨j, hj⟩ : ∃ j, j = K / 8 := ⟨_, rfl⟩
              obtain ⟨t, htt⟩ : ∃ t, t = K % 8 := ⟨_, rfl⟩
              have jE : j < E := by omega
              have t8 : t < 8 := by omega
              have dj : (K : Int).tdiv 8 = (j : Int) := by rw [Int.tdiv_eq_ediv_of_nonneg (by omega)]; omega
              have dj2 : (K : Int) / 8 = (j : Int) := by omega
              have dt : (K : Int).tmod 8 = (t : Int) := by rw [Int.tmod_eq_emod_of_nonneg (by omega)]; omega
              have dt2 : (K : Int) % 8 = (t : Int) := by omega
              have rc := roomy_c (some ⟨bM, oM, none⟩) cM zM _ sM (by rw [lM.out]; omega)
              unfold RoomPost at rc
              rw [lM.out] at rc
              clear hK hj htt KE
              have sD0 := sD
              have hBs := hB.size
              go_wp2_with fail
              refine (rc).mono ?_; rintro e w8 ⟨g, rfl, hg, k1, hb⟩
              replace hs := hs.below hb
              replace ht := ht.below hb
              replace sD := sD.below hb
              replace sM := sM.below hb
              replace sF := sF.below hb
              replace hB := hB.trans (hb.mono hB.size)
              clear hb
              clear rc
              have apD := sD0.apart hg
              clear sD0
              have ag := hB.size
              have c1 := k1.cell j (by rw [List.length_append, lM.out]; omega)
              rw [nth_append_left _ _ _ (by rw [lM.out]; exact jE)] at c1
              have f1 := k1.free j
              obtain ⟨y, hy1⟩ : ∃ y, y = nth zM j := ⟨_, rfl⟩
              rw [← hy1] at c1
              have jE2 : (j : Int) < (E : Int) := by omega
              have w64 : IntKind.u64.wrap (t : Int) = (t : Int) := by rw [IntKind.wrap_u64]; omega
              obtain ⟨v, hv⟩ : ∃ v, v = bits .xor .u8 y ((2 : Int) ^ t % 256) := ⟨_, rfl⟩
              have hve : bits .xor .u8 y ((2 : Int) ^ t % 256) = v := hv.symm
              have v0 : 0 ≤ v ∧ v ≤ 255 := by rw [hv]; exact u8_xor_u8 _ _
              have k2 := k1.set j v
              rw [List.set_append_left _ _ (by rw [lM.out]; exact jE)] at k2
              obtain ⟨X, hX⟩ : ∃ X, X = zM.set j v := ⟨_, rfl⟩
              rw [← hX] at k2
              have lX : Hid (X.length = E) := Lib.hid (by rw [hX, List.length_set, lM.out])
              have uX : U8 X := by rw [hX]; exact InR.set uM j v0.1 v0.2
              have hgs := grownBy_set w8 ⟨g, j, none⟩ (.int .u8 v)
              have sD2 := sD.grown' hgs (fun b off ha hp e => apD b off ha hp (Option.some.inj e))
              have ht2 := ht.grown hgs (Nat.le_trans ht0.top (Nat.le_trans hBs hg))
              have hB2 := hB.setCell (p := ⟨g, j, none⟩) (Nat.le_trans hBs hg) (.int .u8 v)
              have sX := blk_sl k2 (by rw [lX.out]; omega)
              rw [lX.out] at sX
              have ph3 := pHolds_c h (b : Int) aD (some ⟨g, 0, none⟩) cD (E + 9) zD X _ sD2 sX uD uX (by rw [lD.out, lX.out]; omega) ht2
              rw [lD.out, lX.out] at ph3
              have lk3 := fun W (sx : Sl .u8 W aD cD zD) (sm : Sl .u8 W (some ⟨g, 0, none⟩) (E + 9) X) (t : ShaTabs W) => lucky_c h hh b nb aD (some ⟨g, 0, none⟩) cD (E + 9) zD X W sx sm uD uX (by rw [lD.out, HZ.out]) (by rw [lX.out, HE.out]) t
              unfold TellPost at ph3 lk3
              rw [lD.out, lX.out] at lk3
              obtain ⟨H3, hH3⟩ : ∃ H, H = decide (holdsOf h zD X (b : Int)) := ⟨_, rfl⟩
              rw [← hH3] at ph3 lk3
              clear hH3 hX hv hy1 k2
              go_wp2_with fail
              refine ph3.mono ?_; rintro e' w8 ⟨rfl, hb8⟩
              have hB8 := hB2.trans (hb8.mono hB2.size)
              clear ph3
              cases hv3 : H3 with
              | false =>
                subst hv3
                go_wp2_with fail
                go_ret
                exact ⟨rfl, hB8⟩
              | true =>
                subst hv3
                go_wp2_with fail
                refine (lk3 _ (sD2.below hb8) (sX.below hb8) (ht2.below hb8)).mono ?_; rintro e' w9 ⟨rfl, hb9⟩
                go_wp2_with fail
                go_ret
                exact ⟨rfl, hB8.trans (hb9.mono hB8.size)⟩
          | false =>
            subst hv3
            have cc := clash_c h aD aF a2 cD cF c2 zD zF s _ sD sF hs uD uF us (by rw [lD.out, lF.out, ← SL.out]; omega) ht
            rw [lD.out, lF.out, ← SL.out, show decide (encSum h zD s = encSum h zF s) = true from decide_eq_true hcl.out] at cc
            go_wp2_with fail
            refine (cc).mono ?_; rintro e w8 ⟨rfl, hb⟩
            replace hs := hs.below hb
            replace ht := ht.below hb
            replace sD := sD.below hb
            replace sM := sM.below hb
            replace sF := sF.below hb
            replace hB := hB.trans (hb.mono hB.size)
            clear hb
            clear cc
            by_cases hat : at' < 0
            · have ga : decide (at' < 0) = true := decide_eq_true hat
              go_wp2_with fail
              go_ret
              exact ⟨rfl, hB⟩
            · have ga : decide (at' < 0) = false := decide_eq_false hat
              obtain ⟨A, rfl⟩ : ∃ A : Nat, at' = (A : Int) := ⟨at'.toNat, by omega⟩
              obtain ⟨K, hK⟩ : ∃ K, K = A % (8 * E) := ⟨_, rfl⟩
              have KE : K < 8 * E := by rw [hK]; exact Nat.mod_lt _ (by omega)
              have rm2 : (A : Int) % (8 * (E : Int)) = (K : Int) := by rw [hK, Int.natCast_emod, Int.natCast_mul]; rfl
              have rm : (A : Int).tmod (8 * (E : Int)) = (K : Int) := by rw [Int.tmod_eq_emod_of_nonneg (by omega)]; exact rm2
              have n8 : ((8 * (E : Int)) == 0) = false := beq_false_of_ne (by omega)
              have n9 : ((8 * (E : Int)) == -1) = false := beq_false_of_ne (by omega)
              have n10 : ¬ (E : Int) = 0 := by omega
              have w8 : IntKind.i64.wrap (8 * (E : Int)) = 8 * (E : Int) := by rw [IntKind.wrap_i64]; omega
              obtain ⟨j, hj⟩ : ∃ j, j = K / 8 := ⟨_, rfl⟩
              obtain ⟨t, htt⟩ : ∃ t, t = K % 8 := ⟨_, rfl⟩
              have jE : j < E := by omega
              have t8 : t < 8 := by omega
              have dj : (K : Int).tdiv 8 = (j : Int) := by rw [Int.tdiv_eq_ediv_of_nonneg (by omega)]; omega
              have dj2 : (K : Int) / 8 = (j : Int) := by omega
              have dt : (K : Int).tmod 8 = (t : Int) := by rw [Int.tmod_eq_emod_of_nonneg (by omega)]; omega
              have dt2 : (K : Int) % 8 = (t : Int) := by omega
              have rc := roomy_c (some ⟨bM, oM, none⟩) cM zM _ sM (by rw [lM.out]; omega)
              unfold RoomPost at rc
              rw [lM.out] at rc
              clear hK hj htt KE
              have sD0 := sD
              have hBs := hB.size
              go_wp2_with fail
              refine (rc).mono ?_; rintro e w9 ⟨g, rfl, hg, k1, hb⟩
              replace hs := hs.below hb
              replace ht := ht.below hb
              replace sD := sD.below hb
              replace sM := sM.below hb
              replace sF := sF.below hb
              replace hB := hB.trans (hb.mono hB.size)
              clear hb
              clear rc
              have apD := sD0.apart hg
              clear sD0
              have ag := hB.size
              have c1 := k1.cell j (by rw [List.length_append, lM.out]; omega)
              rw [nth_append_left _ _ _ (by rw [lM.out]; exact jE)] at c1
              have f1 := k1.free j
              obtain ⟨y, hy1⟩ : ∃ y, y = nth zM j := ⟨_, rfl⟩
              rw [← hy1] at c1
              have jE2 : (j : Int) < (E : Int) := by omega
              have w64 : IntKind.u64.wrap (t : Int) = (t : Int) := by rw [IntKind.wrap_u64]; omega
              obtain ⟨v, hv⟩ : ∃ v, v = bits .xor .u8 y ((2 : Int) ^ t % 256) := ⟨_, rfl⟩
              have hve : bits .xor .u8 y ((2 : Int) ^ t % 256) = v := hv.symm
              have v0 : 0 ≤ v ∧ v ≤ 255 := by rw [hv]; exact u8_xor_u8 _ _
              have k2 := k1.set j v
              rw [List.set_append_left _ _ (by rw [lM.out]; exact jE)] at k2
              obtain ⟨X, hX⟩ : ∃ X, X = zM.set j v := ⟨_, rfl⟩
              rw [← hX] at k2
              have lX : Hid (X.length = E) := Lib.hid (by rw [hX, List.length_set, lM.out])
              have uX : U8 X := by rw [hX]; exact InR.set uM j v0.1 v0.2
              have hgs := grownBy_set w9 ⟨g, j, none⟩ (.int .u8 v)
              have sD2 := sD.grown' hgs (fun b off ha hp e => apD b off ha hp (Option.some.inj e))
              have ht2 := ht.grown hgs (Nat.le_trans ht0.top (Nat.le_trans hBs hg))
              have hB2 := hB.setCell (p := ⟨g, j, none⟩) (Nat.le_trans hBs hg) (.int .u8 v)
              have sX := blk_sl k2 (by rw [lX.out]; omega)
              rw [lX.out] at sX
              have ph3 := pHolds_c h (b : Int) aD (some ⟨g, 0, none⟩) cD (E + 9) zD X _ sD2 sX uD uX (by rw [lD.out, lX.out]; omega) ht2
              rw [lD.out, lX.out] at ph3
              have lk3 := fun W (sx : Sl .u8 W aD cD zD) (sm : Sl .u8 W (some ⟨g, 0, none⟩) (E + 9) X) (t : ShaTabs W) => lucky_c h hh b nb aD (some ⟨g, 0, none⟩) cD (E + 9) zD X W sx sm uD uX (by rw [lD.out, HZ.out]) (by rw [lX.out, HE.out]) t
              unfold TellPost at ph3 lk3
              rw [lD.out, lX.out] at lk3
              obtain ⟨H3, hH3⟩ : ∃ H, H = decide (holdsOf h zD X (b : Int)) := ⟨_, rfl⟩
              rw [← hH3] at ph3 lk3
              clear hH3 hX hv hy1 k2
              go_wp2_with fail
              refine ph3.mono ?_; rintro e' w8 ⟨rfl, hb8⟩
              have hB8 := hB2.trans (hb8.mono hB2.size)
              clear ph3
              cases hv3 : H3 with
              | false =>
                subst hv3
                go_wp2_with fail
                go_ret
                exact ⟨rfl, hB8⟩
              | true =>
                subst hv3
                go_wp2_with fail
                refine (lk3 _ (sD2.below hb8) (sX.below hb8) (ht2.below hb8)).mono ?_; rintro e' w9 ⟨rfl, hb9⟩
                go_wp2_with fail
                go_ret
                exact ⟨rfl, hB8.trans (hb9.mono hB8.size)⟩
      · have gq : ((q : Int) == (z : Int)) = false := by simp; omega
        go_wp2_with fail
        refine (ph1 _ aD cD sD sM ht).mono ?_; rintro e w4 ⟨rfl, hb⟩
        replace hy := hy.below hb
        replace hs := hs.below hb
        replace ht := ht.below hb
        replace sD := sD.below hb
        replace sM := sM.below hb
        replace hB := hB.trans (hb.mono hB.size)
        clear hb
        clear ph1 ph
        cases hv : H with
        | false =>
          subst hv
          go_wp2_with fail
          go_ret
          exact ⟨rfl, hB⟩
        | true =>
          subst hv
          go_wp2_with fail
          refine (lk _ sD sM ht).mono ?_; rintro e w5 ⟨rfl, hb⟩
          replace hy := hy.below hb
          replace hs := hs.below hb
          replace ht := ht.below hb
          replace sD := sD.below hb
          replace sM := sM.below hb
          replace hB := hB.trans (hb.mono hB.size)
          clear hb
          go_wp2_with fail
          go_ret
          exact ⟨rfl, hB⟩
    · have gr : ((r : Int) != (0 : Int)) = true := by simp; omega
      have hx8 := hfirst.out hr0
      have hsh : x / 2 ^ r = 0 := Int.ediv_eq_zero_of_lt hx8.1 hx8.2
      clear hx8
      go_wp2_with fail
      refine (sz _).mono ?_; rintro e' w' ⟨rfl, rfl⟩
      by_cases hqz : q = z
      · have gq : ((z : Int) == (z : Int)) = true := by simp
        have hHt := HM1.out hqz
        subst hqz
        subst hHt
        go_wp2_with fail
        refine (ph1 _ aD cD sD sM ht).mono ?_; rintro e w4 ⟨rfl, hb⟩
        replace hy := hy.below hb
        replace hs := hs.below hb
        replace ht := ht.below hb
        replace sD := sD.below hb
        replace sM := sM.below hb
        replace hB := hB.trans (hb.mono hB.size)
        clear hb
        clear ph1 lk HM1
        go_wp2_with fail
        refine (Sum1_c h a' cap' o _ hy uy (by omega) ht).mono ?_; rintro e w5 ⟨vF, rfl, nF, hb⟩
        replace hy := hy.below hb
        replace hs := hs.below hb
        replace ht := ht.below hb
        replace sD := sD.below hb
        replace sM := sM.below hb
        replace hB := hB.trans (hb.mono hB.size)
        clear hb
        obtain ⟨aF, cF, rfl, sF⟩ := nF.sl
        clear nF
        obtain ⟨zF, hF⟩ : ∃ z, z = sha h o := ⟨_, rfl⟩
        rw [← hF] at sF ⊢
        have uF : U8 zF := by rw [hF]; exact sha_u8 _ _
        have eF := Lib.hid hF
        clear hF
        clear hy
        have lF : Hid (zF.length = q) := Lib.hid (by rw [eF.out, sha_len, HZ.out])
        rw [lF.out]
        have ph2 := ph zF lF.out uF
        rw [lF.out] at ph2
        clear ph
        obtain ⟨H2, hH2⟩ : ∃ H, H = decide (holdsOf h zF zM (b : Int)) := ⟨_, rfl⟩
        rw [← hH2] at ph2
        have HH2 := Lib.hid hH2
        clear hH2
        go_wp2_with fail
        refine (ph2 _ aF cF sF sM ht).mono ?_; rintro e w6 ⟨rfl, hb⟩
        replace hs := hs.below hb
        replace ht := ht.below hb
        replace sD := sD.below hb
        replace sM := sM.below hb
        replace sF := sF.below hb
        replace hB := hB.trans (hb.mono hB.size)
        clear hb
        clear ph2
        cases hv2 : H2 with
        | false =>
          subst hv2
          by_cases hat : at' < 0
          · have ga : decide (at' < 0) = true := decide_eq_true hat
            go_wp2_with fail
            go_ret
            exact ⟨rfl, hB⟩
          · have ga : decide (at' < 0) = false := decide_eq_false hat
            obtain ⟨A, rfl⟩ : ∃ A : Nat, at' = (A : Int) := ⟨at'.toNat, by omega⟩
            obtain ⟨K, hK⟩ : ∃ K, K = A % (8 * E) := ⟨_, rfl⟩
            have KE : K < 8 * E := by rw [hK]; exact Nat.mod_lt _ (by omega)
            have rm2 : (A : Int) % (8 * (E : Int)) = (K : Int) := by rw [hK, Int.natCast_emod, Int.natCast_mul]; rfl
            have rm : (A : Int).tmod (8 * (E : Int)) = (K : Int) := by rw [Int.tmod_eq_emod_of_nonneg (by omega)]; exact rm2
            have n8 : ((8 * (E : Int)) == 0) = false := beq_false_of_ne (by omega)
            have n9 : ((8 * (E : Int)) == -1) = false := beq_false_of_ne (by omega)
            have n10 : ¬ (E : Int) = 0 := by omega
            have w8 : IntKind.i64.wrap (8 * (E : Int)) = 8 * (E : Int) := by rw [IntKind.wrap_i64]; omega
            obtain ⟨j, hj⟩ : ∃ j, j = K / 8 := ⟨_, rfl⟩
            obtain ⟨t, htt⟩ : ∃ t, t = K % 8 := ⟨_, rfl⟩
            have jE : j < E := by omega
            have t8 : t < 8 := by omega
            have dj : (K : Int).tdiv 8 = (j : Int) := by rw [Int.tdiv_eq_ediv_of_nonneg (by omega)]; omega
            have dj2 : (K : Int) / 8 = (j : Int) := by omega
            have dt : (K : Int).tmod 8 = (t : Int) := by rw [Int.tmod_eq_emod_of_nonneg (by omega)]; omega
            have dt2 : (K : Int) % 8 = (t : Int) := by omega
            have rc := roomy_c (some ⟨bM, oM, none⟩) cM zM _ sM (by rw [lM.out]; omega)
            unfold RoomPost at rc
            rw [lM.out] at rc
            clear hK hj htt KE
            have sD0 := sD
            have hBs := hB.size
            go_wp2_with fail
            refine (rc).mono ?_; rintro e w7 ⟨g, rfl, hg, k1, hb⟩
            replace hs := hs.below hb
            replace ht := ht.below hb
            replace sD := sD.below hb
            replace sM := sM.below hb
            replace sF := sF.below hb
            replace hB := hB.trans (hb.mono hB.size)
            clear hb
            clear rc
            have apD := sD0.apart hg
            clear sD0
            have ag := hB.size
            have c1 := k1.cell j (by rw [List.length_append, lM.out]; omega)
            rw [nth_append_left _ _ _ (by rw [lM.out]; exact jE)] at c1
            have f1 := k1.free j
            obtain ⟨y, hy1⟩ : ∃ y, y = nth zM j := ⟨_, rfl⟩
            rw [← hy1] at c1
            have jE2 : (j : Int) < (E : Int) := by omega
            have w64 : IntKind.u64.wrap (t : Int) = (t : Int) := by rw [IntKind.wrap_u64]; omega
            obtain ⟨v, hv⟩ : ∃ v, v = bits .xor .u8 y ((2 : Int) ^ t % 256) := ⟨_, rfl⟩
            have hve : bits .xor .u8 y ((2 : Int) ^ t % 256) = v := hv.symm
            have v0 : 0 ≤ v ∧ v ≤ 255 := by rw [hv]; exact u8_xor_u8 _ _
            have k2 := k1.set j v
            rw [List.set_append_left _ _ (by rw [lM.out]; exact jE)] at k2
            obtain ⟨X, hX⟩ : ∃ X, X = zM.set j v := ⟨_, rfl⟩
            rw [← hX] at k2
            have lX : Hid (X.length = E) := Lib.hid (by rw [hX, List.length_set, lM.out])
            have uX : U8 X := by rw [hX]; exact InR.set uM j v0.1 v0.2
            have hgs := grownBy_set w7 ⟨g, j, none⟩ (.int .u8 v)
            have sD2 := sD.grown' hgs (fun b off ha hp e => apD b off ha hp (Option.some.inj e))
            have ht2 := ht.grown hgs (Nat.le_trans ht0.top (Nat.le_trans hBs hg))
            have hB2 := hB.setCell (p := ⟨g, j, none⟩) (Nat.le_trans hBs hg) (.int .u8 v)
            have sX := blk_sl k2 (by rw [lX.out]; omega)
            rw [lX.out] at sX
            have ph3 := pHolds_c h (b : Int) aD (some ⟨g, 0, none⟩) cD (E + 9) zD X _ sD2 sX uD uX (by rw [lD.out, lX.out]; omega) ht2
            rw [lD.out, lX.out] at ph3
            have lk3 := fun W (sx : Sl .u8 W aD cD zD) (sm : Sl .u8 W (some ⟨g, 0, none⟩) (E + 9) X) (t : ShaTabs W) => lucky_c h hh b nb aD (some ⟨g, 0, none⟩) cD (E + 9) zD X W sx sm uD uX (by rw [lD.out, HZ.out]) (by rw [lX.out, HE.out]) t
            unfold TellPost at ph3 lk3
            rw [lD.out, lX.out] at lk3
            obtain ⟨H3, hH3⟩ : ∃ H, H = decide (holdsOf h zD X (b : Int)) := ⟨_, rfl⟩
            rw [← hH3] at ph3 lk3
            clear hH3 hX hv hy1 k2
            go_wp2_with fail
            refine ph3.mono ?_; rintro e' w8 ⟨rfl, hb8⟩
            have hB8 := hB2.trans (hb8.mono hB2.size)
            clear ph3
            cases hv3 : H3 with
            | false =>
              subst hv3
              go_wp2_with fail
              go_ret
              exact ⟨rfl, hB8⟩
            | true =>
              subst hv3
              go_wp2_with fail
              refine (lk3 _ (sD2.below hb8) (sX.below hb8) (ht2.below hb8)).mono ?_; rintro e' w9 ⟨rfl, hb9⟩
              go_wp2_with fail
              go_ret
              exact ⟨rfl, hB8.trans (hb9.mono hB8.size)⟩
        | true =>
          have hcl : Hid (encSum h zD s = encSum h zF s) := Lib.hid (by
            have k : holdsOf h zF zM (b : Int) := of_decide_eq_true (HH2.out.symm.trans hv2)
            rw [hM1.out] at k
            exact holds_clash hh zD zF s b FT.out (by rw [← SL.out, HZ.out]) us k)
          subst hv2
          have cm := same10_c _ _ _ _ _ _ _ sF sD uF uD
          rw [lF.out, lD.out] at cm
          unfold TellPost at cm
          obtain ⟨S, hS⟩ : ∃ S, S = decide (zF = zD) := ⟨_, rfl⟩
          rw [← hS] at cm
          clear hS
          go_wp2_with fail
          refine (cm).mono ?_; rintro e w7 ⟨rfl, hb⟩
          replace hs := hs.below hb
          replace ht := ht.below hb
          replace sD := sD.below hb
          replace sM := sM.below hb
          replace sF := sF.below hb
          replace hB := hB.trans (hb.mono hB.size)
          clear hb
          clear cm
          cases hv3 : S with
          | true =>
            subst hv3
            by_cases hat : at' < 0
            · have ga : decide (at' < 0) = true := decide_eq_true hat
              go_wp2_with fail
              go_ret
              exact ⟨rfl, hB⟩
            · have ga : decide (at' < 0) = false := decide_eq_false hat
              obtain ⟨A, rfl⟩ : ∃ A : Nat, at' = (A : Int) := ⟨at'.toNat, by omega⟩
              obtain ⟨K, hK⟩ : ∃ K, K = A % (8 * E) := ⟨_, rfl⟩
              have KE : K < 8 * E := by rw [hK]; exact Nat.mod_lt _ (by omega)
              have rm2 : (A : Int) % (8 * (E : Int)) = (K : Int) := by rw [hK, Int.natCast_emod, Int.natCast_mul]; rfl
              have rm : (A : Int).tmod (8 * (E : Int)) = (K : Int) := by rw [Int.tmod_eq_emod_of_nonneg (by omega)]; exact rm2
              have n8 : ((8 * (E : Int)) == 0) = false := beq_false_of_ne (by omega)
              have n9 : ((8 * (E : Int)) == -1) = false := beq_false_of_ne (by omega)
              have n10 : ¬ (E : Int) = 0 := by omega
              have w8 : IntKind.i64.wrap (8 * (E : Int)) = 8 * (E : Int) := by rw [IntKind.wrap_i64]; omega
              obtain ⟨j, hj⟩ : ∃ j, j = K / 8 := ⟨_, rfl⟩
              obtain ⟨t, htt⟩ : ∃ t, t = K % 8 := ⟨_, rfl⟩
              have jE : j < E := by omega
              have t8 : t < 8 := by omega
              have dj : (K : Int).tdiv 8 = (j : Int) := by rw [Int.tdiv_eq_ediv_of_nonneg (by omega)]; omega
              have dj2 : (K : Int) / 8 = (j : Int) := by omega
              have dt : (K : Int).tmod 8 = (t : Int) := by rw [Int.tmod_eq_emod_of_nonneg (by omega)]; omega
              have dt2 : (K : Int) % 8 = (t : Int) := by omega
              have rc := roomy_c (some ⟨bM, oM, none⟩) cM zM _ sM (by rw [lM.out]; omega)
              unfold RoomPost at rc
              rw [lM.out] at rc
              clear hK hj htt KE
              have sD0 := sD
              have hBs := hB.size
              go_wp2_with fail
              refine (rc).mono ?_; rintro e w8 ⟨g, rfl, hg, k1, hb⟩
              replace hs := hs.below hb
              replace ht := ht.below hb
              replace sD := sD.below hb
              replace sM := sM.below hb
              replace sF := sF.below hb
              replace hB := hB.trans (hb.mono hB.size)
              clear hb
              clear rc
              have apD := sD0.apart hg
              clear sD0
              have ag := hB.size
              have c1 := k1.cell j (by rw [List.length_append, lM.out]; omega)
              rw [nth_append_left _ _ _ (by rw [lM.out]; exact jE)] at c1
              have f1 := k1.free j
              obtain ⟨y, hy1⟩ : ∃ y, y = nth zM j := ⟨_, rfl⟩
              rw [← hy1] at c1
              have jE2 : (j : Int) < (E : Int) := by omega
              have w64 : IntKind.u64.wrap (t : Int) = (t : Int) := by rw [IntKind.wrap_u64]; omega
              obtain ⟨v, hv⟩ : ∃ v, v = bits .xor .u8 y ((2 : Int) ^ t % 256) := ⟨_, rfl⟩
              have hve : bits .xor .u8 y ((2 : Int) ^ t % 256) = v := hv.symm
              have v0 : 0 ≤ v ∧ v ≤ 255 := by rw [hv]; exact u8_xor_u8 _ _
              have k2 := k1.set j v
              rw [List.set_append_left _ _ (by rw [lM.out]; exact jE)] at k2
              obtain ⟨X, hX⟩ : ∃ X, X = zM.set j v := ⟨_, rfl⟩
              rw [← hX] at k2
              have lX : Hid (X.length = E) := Lib.hid (by rw [hX, List.length_set, lM.out])
              have uX : U8 X := by rw [hX]; exact InR.set uM j v0.1 v0.2
              have hgs := grownBy_set w8 ⟨g, j, none⟩ (.int .u8 v)
              have sD2 := sD.grown' hgs (fun b off ha hp e => apD b off ha hp (Option.some.inj e))
              have ht2 := ht.grown hgs (Nat.le_trans ht0.top (Nat.le_trans hBs hg))
              have hB2 := hB.setCell (p := ⟨g, j, none⟩) (Nat.le_trans hBs hg) (.int .u8 v)
              have sX := blk_sl k2 (by rw [lX.out]; omega)
              rw [lX.out] at sX
              have ph3 := pHolds_c h (b : Int) aD (some ⟨g, 0, none⟩) cD (E + 9) zD X _ sD2 sX uD uX (by rw [lD.out, lX.out]; omega) ht2
              rw [lD.out, lX.out] at ph3
              have lk3 := fun W (sx : Sl .u8 W aD cD zD) (sm : Sl .u8 W (some ⟨g, 0, none⟩) (E + 9) X) (t : ShaTabs W) => lucky_c h hh b nb aD (some ⟨g, 0, none⟩) cD (E + 9) zD X W sx sm uD uX (by rw [lD.out, HZ.out]) (by rw [lX.out, HE.out]) t
              unfold TellPost at ph3 lk3
              rw [lD.out, lX.out] at lk3
              obtain ⟨H3, hH3⟩ : ∃ H, H = decide (holdsOf h zD X (b : Int)) := ⟨_, rfl⟩
              rw [← hH3] at ph3 lk3
              clear hH3 hX hv hy1 k2
              go_wp2_with fail
              refine ph3.mono ?_; rintro e' w8 ⟨rfl, hb8⟩
              have hB8 := hB2.trans (hb8.mono hB2.size)
              clear ph3
              cases hv3 : H3 with
              | false =>
                subst hv3
                go_wp2_with fail
                go_ret
                exact ⟨rfl, hB8⟩
              | true =>
                subst hv3
                go_wp2_with fail
                refine (lk3 _ (sD2.below hb8) (sX.below hb8) (ht2.below hb8)).mono ?_; rintro e' w9 ⟨rfl, hb9⟩
                go_wp2_with fail
                go_ret
                exact ⟨rfl, hB8.trans (hb9.mono hB8.size)⟩
          | false =>
            subst hv3
            have cc := clash_c h aD aF a2 cD cF c2 zD zF s _ sD sF hs uD uF us (by rw [lD.out, lF.out, ← SL.out]; omega) ht
            rw [lD.out, lF.out, ← SL.out, show decide (encSum h zD s = encSum h zF s) = true from decide_eq_true hcl.out] at cc
            go_wp2_with fail
            refine (cc).mono ?_; rintro e w8 ⟨rfl, hb⟩
            replace hs := hs.below hb
            replace ht := ht.below hb
            replace sD := sD.below hb
            replace sM := sM.below hb
            replace sF := sF.below hb
            replace hB := hB.trans (hb.mono hB.size)
            clear hb
            clear cc
            by_cases hat : at' < 0
            · have ga : decide (at' < 0) = true := decide_eq_true hat
              go_wp2_with fail
              go_ret
              exact ⟨rfl, hB⟩
            · have ga : decide (at' < 0) = false := decide_eq_false hat
              obtain ⟨A, rfl⟩ : ∃ A : Nat, at' = (A : Int) := ⟨at'.toNat, by omega⟩
              obtain ⟨K, hK⟩ : ∃ K, K = A % (8 * E) := ⟨_, rfl⟩
              have KE : K < 8 * E := by rw [hK]; exact Nat.mod_lt _ (by omega)
              have rm2 : (A : Int) % (8 * (E : Int)) = (K : Int) := by rw [hK, Int.natCast_emod, Int.natCast_mul]; rfl
              have rm : (A : Int).tmod (8 * (E : Int)) = (K : Int) := by rw [Int.tmod_eq_emod_of_nonneg (by omega)]; exact rm2
              have n8 : ((8 * (E : Int)) == 0) = false := beq_false_of_ne (by omega)
              have n9 : ((8 * (E : Int)) == -1) = false := beq_false_of_ne (by omega)
              have n10 : ¬ (E : Int) = 0 := by omega
              have w8 : IntKind.i64.wrap (8 * (E : Int)) = 8 * (E : Int) := by rw [IntKind.wrap_i64]; omega
              obtain ⟨j, hj⟩ : ∃ j, j = K / 8 := ⟨_, rfl⟩
              obtain ⟨t, htt⟩ : ∃ t, t = K % 8 := ⟨_, rfl⟩
              have jE : j < E := by omega
              have t8 : t < 8 := by omega
              have dj : (K : Int).tdiv 8 = (j : Int) := by rw [Int.tdiv_eq_ediv_of_nonneg (by omega)]; omega
              have dj2 : (K : Int) / 8 = (j : Int) := by omega
              have dt : (K : Int).tmod 8 = (t : Int) := by rw [Int.tmod_eq_emod_of_nonneg (by omega)]; omega
              have dt2 : (K : Int) % 8 = (t : Int) := by omega
              have rc := roomy_c (some ⟨bM, oM, none⟩) cM zM _ sM (by rw [lM.out]; omega)
              unfold RoomPost at rc
              rw [lM.out] at rc
              clear hK hj htt KE
              have sD0 := sD
              have hBs := hB.size
              go_wp2_with fail
              refine (rc).mono ?_; rintro e w9 ⟨g, rfl, hg, k1, hb⟩
              replace hs := hs.below hb
              replace ht := ht.below hb
              replace sD := sD.below hb
              replace sM := sM.below hb
              replace sF := sF.below hb
              replace hB := hB.trans (hb.mono hB.size)
              clear hb
              clear rc
              have apD := sD0.apart hg
              clear sD0
              have ag := hB.size
              have c1 := k1.cell j (by rw [List.length_append, lM.out]; omega)
              rw [nth_append_left _ _ _ (by rw [lM.out]; exact jE)] at c1
              have f1 := k1.free j
              obtain ⟨y, hy1⟩ : ∃ y, y = nth zM j := ⟨_, rfl⟩
              rw [← hy1] at c1
              have jE2 : (j : Int) < (E : Int) := by omega
              have w64 : IntKind.u64.wrap (t : Int) = (t : Int) := by rw [IntKind.wrap_u64]; omega
              obtain ⟨v, hv⟩ : ∃ v, v = bits .xor .u8 y ((2 : Int) ^ t % 256) := ⟨_, rfl⟩
              have hve : bits .xor .u8 y ((2 : Int) ^ t % 256) = v := hv.symm
              have v0 : 0 ≤ v ∧ v ≤ 255 := by rw [hv]; exact u8_xor_u8 _ _
              have k2 := k1.set j v
              rw [List.set_append_left _ _ (by rw [lM.out]; exact jE)] at k2
              obtain ⟨X, hX⟩ : ∃ X, X = zM.set j v := ⟨_, rfl⟩
              rw [← hX] at k2
              have lX : Hid (X.length = E) := Lib.hid (by rw [hX, List.length_set, lM.out])
              have uX : U8 X := by rw [hX]; exact InR.set uM j v0.1 v0.2
              have hgs := grownBy_set w9 ⟨g, j, none⟩ (.int .u8 v)
              have sD2 := sD.grown' hgs (fun b off ha hp e => apD b off ha hp (Option.some.inj e))
              have ht2 := ht.grown hgs (Nat.le_trans ht0.top (Nat.le_trans hBs hg))
              have hB2 := hB.setCell (p := ⟨g, j, none⟩) (Nat.le_trans hBs hg) (.int .u8 v)
              have sX := blk_sl k2 (by rw [lX.out]; omega)
              rw [lX.out] at sX
              have ph3 := pHolds_c h (b : Int) aD (some ⟨g, 0, none⟩) cD (E + 9) zD X _ sD2 sX uD uX (by rw [lD.out, lX.out]; omega) ht2
              rw [lD.out, lX.out] at ph3
              have lk3 := fun W (sx : Sl .u8 W aD cD zD) (sm : Sl .u8 W (some ⟨g, 0, none⟩) (E + 9) X) (t : ShaTabs W) => lucky_c h hh b nb aD (some ⟨g, 0, none⟩) cD (E + 9) zD X W sx sm uD uX (by rw [lD.out, HZ.out]) (by rw [lX.out, HE.out]) t
              unfold TellPost at ph3 lk3
              rw [lD.out, lX.out] at lk3
              obtain ⟨H3, hH3⟩ : ∃ H, H = decide (holdsOf h zD X (b : Int)) := ⟨_, rfl⟩
              rw [← hH3] at ph3 lk3
              clear hH3 hX hv hy1 k2
              go_wp2_with fail
              refine ph3.mono ?_; rintro e' w8 ⟨rfl, hb8⟩
              have hB8 := hB2.trans (hb8.mono hB2.size)
              clear ph3
              cases hv3 : H3 with
              | false =>
                subst hv3
                go_wp2_with fail
                go_ret
                exact ⟨rfl, hB8⟩
              | true =>
                subst hv3
                go_wp2_with fail
                refine (lk3 _ (sD2.below hb8) (sX.below hb8) (ht2.below hb8)).mono ?_; rintro e' w9 ⟨rfl, hb9⟩
                go_wp2_with fail
                go_ret
                exact ⟨rfl, hB8.trans (hb9.mono hB8.size)⟩
      · have gq : ((q : Int) == (z : Int)) = false := by simp; omega
        go_wp2_with fail
        refine (ph1 _ aD cD sD sM ht).mono ?_; rintro e w4 ⟨rfl, hb⟩
        replace hy := hy.below hb
        replace hs := hs.below hb
        replace ht := ht.below hb
        replace sD := sD.below hb
        replace sM := sM.below hb
        replace hB := hB.trans (hb.mono hB.size)
        clear hb
        clear ph1 ph
        cases hv : H with
        | false =>
          subst hv
          go_wp2_with fail
          go_ret
          exact ⟨rfl, hB⟩
        | true =>
          subst hv
          go_wp2_with fail
          refine (lk _ sD sM ht).mono ?_; rintro e w5 ⟨rfl, hb⟩
          replace hy := hy.below hb
          replace hs := hs.below hb
          replace ht := ht.below hb
          replace sD := sD.below hb
          replace sM := sM.below hb
          replace hB := hB.trans (hb.mono hB.size)
          clear hb
          go_wp2_with fail
          go_ret
          exact ⟨rfl, hB⟩
  · have hM0 : zM = [] := by rw [eM.out]; exact eres_none (fun k => hc0 (hC.trans k))
    subst hM0
    have gc : (C != (0 : Int)) = true := by simp [hc0]
    have ph := pHolds_c h n aD aM cD cM zD [] _ sD sM uD uM (by rw [lD.out, List.length_nil]; omega) ht
    rw [lD.out, holds_nil] at ph
    clear hc0 hC eM
    go_wp2_with fail
    refine (ph).mono ?_; rintro e w4 ⟨rfl, hb⟩
    replace hy := hy.below hb
    replace hs := hs.below hb
    replace ht := ht.below hb
    replace sD := sD.below hb
    replace sM := sM.below hb
    replace hB := hB.trans (hb.mono hB.size)
    clear hb
    go_wp2_with fail
    go_ret
    exact ⟨rfl, hB⟩
end Go.Proofs.YtponfoijmmegmaaDoor
