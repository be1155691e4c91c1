import Derived.Test.YtlolkighnnedfaaDoorZ24
import Derived.Test.YtlolkighnnedfaaDoorZ31
import Derived.Test.YtlolkighnnedfaaDoorZ15
/- package ed: number, abscissa, by their contracts. (Printed by gen_edpg.py.) -/
set_option linter.unusedVariables false
set_option linter.unusedSimpArgs false
namespace Go.Proofs.YtlolkighnnedfaaDoor
open Go.RowKit Go.Sg
theorem number_c (a : Option Addr) (cap : Nat) (xs : List Int) (w : World) (hx : Sl .u8 w a cap xs) (ux : U8 xs) (h0 : 0 < xs.length) (hl : xs.length ≤ 140737488350000) : Calls Tryd.prog 50 #[.slice a xs.length cap] w (NatPost (lnum xs) w) := by
  obtain ⟨b, off, rfl, _⟩ := hx.cells h0
  have cc := Clone_c ⟨b, off, none⟩ cap xs w hx hl
  have hlr : xs.reverse.length = xs.length := List.length_reverse
  have ur : U8 xs.reverse := ux.reverse (by omega)
  have HLR := Lib.hid hlr
  have H0 := Lib.hid h0
  have HL := Lib.hid hl
  clear hlr h0 hl hx
  go_enter Tryd.func50, Tryd.ntmps50
  go_wp2_with fail
  refine cc.mono ?_; rintro e_ w1 ⟨v1, rfl, hn, hb⟩
  obtain ⟨g, cp, rfl, hg, hp⟩ := hn.pre H0.out
  have rc := Reverse_c g cp 5 xs w1 hp
  clear cc hn
  go_wp2_with fail
  refine rc.mono ?_; rintro e_ w2 ⟨rfl, hp2, hb2⟩
  have hB := hb.trans (hb2.mono hg)
  obtain ⟨a2, c2, hv2, hs2⟩ := (hp2.new (B := 0) (Nat.zero_le _)).sl
  simp only [Value.slice.injEq] at hv2
  obtain ⟨rfl, -, rfl⟩ := hv2
  have fb := FromBytes_v _ _ (lnum xs) xs.reverse w2 hs2 ur (by rw [HLR.out]; have := HL.out; omega) rfl
  rw [HLR.out] at fb
  have hbs := hB.size
  clear rc hb hb2 hp2 hp hs2
  go_wp2_with fail
  refine fb.mono ?_; rintro e_ w3 ⟨v3, rfl, hr, hb3⟩
  go_wp2_with fail
  go_ret
  exact ⟨_, rfl, hr.mono hbs, hB.trans (hb3.mono hbs)⟩
theorem shr3_v {v : Value} {n : Nat} {W : World} (h : NumAt W v n) : Calls Tryd.prog 103 #[v, .int .i64 3] W (NatPost (n / 8) W) := by
  obtain ⟨a, c, zs, rfl, s, u, rfl, hl⟩ := h
  exact Shr_k _ _ 3 _ _ s u (by omega) (by omega)
def AbsPost (r : Option Fp) (W : World) (e : Ending) (w' : World) : Prop := match r with
  | some x => (∃ v, e = .returned (.tuple #[v, .bool true]) ∧ NatRes W.heap.size w' v x.val) ∧ Below W.heap.size W w'
  | none => e = .returned (.tuple #[.slice none 0 0, .bool false]) ∧ Below W.heap.size W w'

set_option maxHeartbeats 4000000 in
set_option maxRecDepth 20000 in
theorem abscissa_c {v : Value} {y : Fp} {odd : Bool} {w : World} (h : NumAt w v y.val) (tP : TabAt w 0 limbP) (tD : TabAt w 3 limbD) (tI : TabAt w 4 limbI) :
    Calls Tryd.prog 52 #[v, .bool odd] w (AbsPost (eRoot y odd) w) := by
  obtain ⟨er, her⟩ : ∃ r, r = eRoot y odd := ⟨_, rfl⟩
  rw [← her]
  have HER := Lib.hid her
  clear her
  go_enter Tryd.func52, Tryd.ntmps52
  have hB := Below.refl w.heap.size w
  go_wp2_with fail
  refine (mul_f (h.below hB) (h.below hB) (tP.below hB)).mono ?_; rintro e_ w1 ⟨v11, rfl, hn, hb⟩
  have c11 := hn.fp
  replace hB := hB.trans (hb.mono hB.size)
  clear hb hn
  go_wp2_with (refine wpList_lit rfl 27 36 _ rfl Tryd.underlying27 info32e 1 rfl ?_)
  intro w2 hl hb
  have c13 := (NatRes.lit (c := 1) hl (Nat.zero_le _) (by omega) (by omega)).can (k := 1) (by exact ⟨by decide⟩) (by omega)
  replace c13 : CanAt w2 _ (1 : Fp).val := c13
  obtain ⟨v13, hv13⟩ : ∃ v, v = Value.slice (some ⟨w1.heap.size, 0, none⟩) 1 1 := ⟨_, rfl⟩
  rw [← hv13] at c13 ⊢
  clear hv13 hl
  replace hB := hB.trans (hb.mono hB.size)
  replace c11 := c11.below hb
  clear hb
  go_wp2_with fail
  refine (sub_f c11.num c13.num (tP.below hB)).mono ?_; rintro e_ w3 ⟨v14, rfl, hn, hb⟩
  have c14 := hn.fp
  replace hB := hB.trans (hb.mono hB.size)
  replace c11 := c11.below hb
  replace c13 := c13.below hb
  clear hb hn
  go_wp2_with fail
  refine (curve_c w3 (tD.below hB)).mono ?_; rintro e_ w4 ⟨v15, rfl, c15, hb⟩
  replace hB := hB.trans (hb.mono hB.size)
  replace c11 := c11.below hb
  replace c13 := c13.below hb
  replace c14 := c14.below hb
  clear hb
  go_wp2_with fail
  refine (mul_f c15.num c11.num (tP.below hB)).mono ?_; rintro e_ w5 ⟨v17, rfl, hn, hb⟩
  have c17 := hn.fp
  replace hB := hB.trans (hb.mono hB.size)
  replace c11 := c11.below hb
  replace c13 := c13.below hb
  replace c14 := c14.below hb
  replace c15 := c15.below hb
  clear hb hn
  go_wp2_with (refine wpList_lit rfl 27 36 _ rfl Tryd.underlying27 info32e 1 rfl ?_)
  intro w6 hl hb
  have c18 := (NatRes.lit (c := 1) hl (Nat.zero_le _) (by omega) (by omega)).can (k := 1) (by exact ⟨by decide⟩) (by omega)
  replace c18 : CanAt w6 _ (1 : Fp).val := c18
  obtain ⟨v18, hv18⟩ : ∃ v, v = Value.slice (some ⟨w5.heap.size, 0, none⟩) 1 1 := ⟨_, rfl⟩
  rw [← hv18] at c18 ⊢
  clear hv18 hl
  replace hB := hB.trans (hb.mono hB.size)
  replace c11 := c11.below hb
  replace c13 := c13.below hb
  replace c14 := c14.below hb
  replace c15 := c15.below hb
  replace c17 := c17.below hb
  clear hb
  go_wp2_with fail
  refine (add_f c17.num c18.num (tP.below hB)).mono ?_; rintro e_ w7 ⟨v19, rfl, hn, hb⟩
  have c19 := hn.fp
  replace hB := hB.trans (hb.mono hB.size)
  replace c11 := c11.below hb
  replace c13 := c13.below hb
  replace c14 := c14.below hb
  replace c15 := c15.below hb
  replace c17 := c17.below hb
  replace c18 := c18.below hb
  clear hb hn
  go_wp2_with fail
  refine (inv_f c19.num (eDy_ne y) (tP.below hB)).mono ?_; rintro e_ w8 ⟨v20, rfl, hn, hb⟩
  have c20 := hn.fp
  replace hB := hB.trans (hb.mono hB.size)
  replace c11 := c11.below hb
  replace c13 := c13.below hb
  replace c14 := c14.below hb
  replace c15 := c15.below hb
  replace c17 := c17.below hb
  replace c18 := c18.below hb
  replace c19 := c19.below hb
  clear hb hn
  go_wp2_with fail
  refine (mul_f c14.num c20.num (tP.below hB)).mono ?_; rintro e_ w9 ⟨v21, rfl, hn, hb⟩
  have c21 := hn.fp
  replace hB := hB.trans (hb.mono hB.size)
  replace c11 := c11.below hb
  replace c13 := c13.below hb
  replace c14 := c14.below hb
  replace c15 := c15.below hb
  replace c17 := c17.below hb
  replace c18 := c18.below hb
  replace c19 := c19.below hb
  replace c20 := c20.below hb
  clear hb hn
  have e21 : Hid ((y * y - 1) * finv (eD * (y * y) + 1) = eXX y) := Lib.hid rfl
  rw [e21.out] at c21
  obtain ⟨xx, hxx⟩ : ∃ x, x = eXX y := ⟨_, rfl⟩
  rw [← hxx] at c21
  have HXX := Lib.hid hxx
  clear hxx e21
  clear c11
  clear c13
  clear c14
  clear c15
  clear c17
  clear c18
  clear c19
  clear c20
  go_wp2_with fail
  refine (prime_c w9 (tP.below hB)).mono ?_; rintro e_ w10 ⟨v23, rfl, c23, hb⟩
  replace hB := hB.trans (hb.mono hB.size)
  replace c21 := c21.below hb
  clear hb
  go_wp2_with (refine wpList_lit rfl 27 36 _ rfl Tryd.underlying27 info32e 3 rfl ?_)
  intro w11 hl hb
  have c24 := (NatRes.lit (c := 3) hl (Nat.zero_le _) (by omega) (by omega)).can (k := 1) (by exact ⟨by decide⟩) (by omega)
  obtain ⟨v24, hv24⟩ : ∃ v, v = Value.slice (some ⟨w10.heap.size, 0, none⟩) 1 1 := ⟨_, rfl⟩
  rw [← hv24] at c24 ⊢
  clear hv24 hl
  replace hB := hB.trans (hb.mono hB.size)
  replace c21 := c21.below hb
  replace c23 := c23.below hb
  clear hb
  go_wp2_with fail
  refine (add_can c23.num c24.num lim_eP (l := 1) ⟨by decide⟩ (by omega)).mono ?_; rintro e_ w12 ⟨v25, rfl, c25, hb⟩
  replace hB := hB.trans (hb.mono hB.size)
  replace c21 := c21.below hb
  replace c23 := c23.below hb
  replace c24 := c24.below hb
  clear hb
  go_wp2_with fail
  refine (shr3_v c25.num).mono ?_; rintro e_ w13 ⟨v26, rfl, hn, hb⟩
  have c26 := hn.can (k := 8) (lim_eP.le (by omega)) (by omega)
  replace hB := hB.trans (hb.mono hB.size)
  replace c21 := c21.below hb
  replace c23 := c23.below hb
  replace c24 := c24.below hb
  replace c25 := c25.below hb
  clear hb hn
  go_wp2_with fail
  refine (power_f c21.num c26.num bigP8 (tP.below hB)).mono ?_; rintro e_ w14 ⟨v27, rfl, hn, hb⟩
  have c27 := hn.fp
  have r27 := hn.mono hB.size
  replace hB := hB.trans (hb.mono hB.size)
  replace c21 := c21.below hb
  replace c23 := c23.below hb
  replace c24 := c24.below hb
  replace c25 := c25.below hb
  replace c26 := c26.below hb
  clear hb hn
  obtain ⟨r0, hr0⟩ : ∃ r, r = fpow xx ((eP + 3) / 8) := ⟨_, rfl⟩
  rw [← hr0] at c27 r27
  have HR0 : Hid (r0 = eR0 y) := Lib.hid (by rw [hr0, HXX.out]; rfl)
  clear hr0
  clear c23
  clear c24
  clear c25
  clear c26
  go_wp2_with fail
  refine (mul_f c27.num c27.num (tP.below hB)).mono ?_; rintro e_ w15 ⟨v30, rfl, hn, hb⟩
  have c30 := hn.fp
  replace hB := hB.trans (hb.mono hB.size)
  replace c21 := c21.below hb
  replace c27 := c27.below hb
  replace r27 := r27.below hb
  clear hb hn
  go_wp2_with fail
  by_cases hq_ : (r0 * r0) = xx
  · skip
    have h_ := cmp_v c30.num c21.num
    rw [cmpI_eq (congrArg Fin.val hq_)] at h_
    have HQ0 : Hid (eR0 y * eR0 y = eXX y) := Lib.hid (by rw [← HR0.out, ← HXX.out]; exact hq_)
    clear hq_
    refine h_.mono ?_; rintro e_ w16 ⟨rfl, hd_⟩
    have hb := hd_.b
    clear h_ hd_
    replace hB := hB.trans (hb.mono hB.size)
    replace c21 := c21.below hb
    replace c27 := c27.below hb
    replace r27 := r27.below hb
    replace c30 := c30.below hb
    clear hb
    clear c30
    obtain ⟨r1, rfl⟩ : ∃ r : Fp, r = r0 := ⟨_, rfl⟩
    have c8_ := c27
    have r8_ := r27
    clear c27 r27
    have HR1 : Hid (r1 = eR1 y) := Lib.hid (by rw [eR1_yes HQ0.out, HR0.out])
    go_wp2_with fail
    refine (mul_f c8_.num c8_.num (tP.below hB)).mono ?_; rintro e_ w17 ⟨v39, rfl, hn, hb⟩
    have c39 := hn.fp
    replace hB := hB.trans (hb.mono hB.size)
    replace c21 := c21.below hb
    replace c8_ := c8_.below hb
    replace r8_ := r8_.below hb
    clear hb hn
    go_wp2_with fail
    by_cases hq_ : (r1 * r1) = xx
    · skip
      have h_ := cmp_v c39.num c21.num
      rw [cmpI_eq (congrArg Fin.val hq_)] at h_
      have HQ : Hid (eR1 y * eR1 y = eXX y) := Lib.hid (by rw [← HR1.out, ← HXX.out]; exact hq_)
      clear hq_
      refine h_.mono ?_; rintro e_ w18 ⟨rfl, hd_⟩
      have hb := hd_.b
      clear h_ hd_
      replace hB := hB.trans (hb.mono hB.size)
      replace c21 := c21.below hb
      replace c8_ := c8_.below hb
      replace r8_ := r8_.below hb
      replace c39 := c39.below hb
      clear hb
      clear c39
      have bc := bits_v c8_.num
      obtain ⟨bk, hbk⟩ : ∃ b, b = bl r1.val := ⟨_, rfl⟩
      rw [← hbk] at bc
      by_cases hz_ : r1 = 0
      · skip
        obtain rfl : bk = 0 := by rw [hbk]; exact fp_bl0.2 hz_
        cases odd with
        | true =>
          have HE : Hid (er = none) := Lib.hid (by rw [HER.out]; exact eRoot_no2 (by rw [← HR1.out]; exact hz_))
          clear hbk hz_
          go_wp2_with fail
          refine bc.mono ?_; rintro e_ w' ⟨rfl, rfl⟩
          clear bc
          go_wp2_with fail
          go_ret2
          rw [HE.out]
          exact ⟨rfl, hB⟩
        | false =>
          have hne2 : eOdd r1 = false := by rw [hz_]; decide +kernel
          have HE : Hid (er = some r1) := Lib.hid (by rw [HER.out, eRoot_yes HQ.out (fun _ => rfl), ← HR1.out, if_pos hne2])
          have h0_ : r1.val % 2 = 0 := by rw [hz_, fp_zero]
          clear hbk hz_ hne2
          go_wp2_with fail
          refine bc.mono ?_; rintro e_ w' ⟨rfl, rfl⟩
          clear bc
          have b0 := bit0_v c8_.num
          rw [h0_] at b0
          clear h0_
          go_wp2_with fail
          refine b0.mono ?_; rintro e_ w19 ⟨rfl, hd_⟩
          have hb := hd_.b
          clear b0 hd_
          replace hB := hB.trans (hb.mono hB.size)
          replace c21 := c21.below hb
          replace c8_ := c8_.below hb
          replace r8_ := r8_.below hb
          clear hb
          go_wp2_with fail
          go_ret2
          rw [HE.out]
          exact ⟨⟨_, rfl, r8_⟩, hB⟩
      · skip
        have hb0 : (bk == 0) = false := by have := fun h => hz_ (fp_bl0.1 (hbk ▸ h)); simpa using this
        have hb1 : ((bk : Int) == 0) = false := by have : bk ≠ 0 := by simpa using hb0
                                                   simp; omega
        have HZ := Lib.hid hz_
        clear hbk hz_
        go_wp2_with fail
        refine bc.mono ?_; rintro e_ w' ⟨rfl, rfl⟩
        clear bc
        have b0 := bit0_v c8_.num
        obtain ⟨ob, hob⟩ : ∃ b, b = decide (r1.val % 2 = 1) := ⟨_, rfl⟩
        have HOB : Hid (ob = eOdd r1) := Lib.hid (by rw [hob]; unfold eOdd; by_cases h : r1.val % 2 = 1 <;> simp [h])
        rw [← hob] at b0
        clear hob
        go_wp2_with fail
        refine b0.mono ?_; rintro e_ w19 ⟨rfl, hd_⟩
        have hb := hd_.b
        clear b0 hd_
        replace hB := hB.trans (hb.mono hB.size)
        replace c21 := c21.below hb
        replace c8_ := c8_.below hb
        replace r8_ := r8_.below hb
        clear hb
        cases ob with
        | true =>
          cases odd with
          | true =>
            have HE : Hid (er = some r1) := Lib.hid (by rw [HER.out, eRoot_yes HQ.out (fun h => absurd (by rw [HR1.out]; exact h) HZ.out), ← HR1.out, if_pos (by rw [← HOB.out])])
            go_wp2_with fail
            go_ret2
            rw [HE.out]
            exact ⟨⟨_, rfl, r8_⟩, hB⟩
          | false =>
            have HE : Hid (er = some (0 - r1)) := Lib.hid (by rw [HER.out, eRoot_yes HQ.out (fun h => absurd (by rw [HR1.out]; exact h) HZ.out), ← HR1.out, if_neg (by rw [← HOB.out]; simp)])
            have sf := sub_f (CanAt.nil0 w19).num c8_.num (tP.below hB)
            go_wp2_with fail
            refine sf.mono ?_; rintro e_ w20 ⟨v56, rfl, hn, hb⟩
            have r56 := hn.mono hB.size
            clear sf hn
            replace hB := hB.trans (hb.mono hB.size)
            replace c21 := c21.below hb
            replace c8_ := c8_.below hb
            replace r8_ := r8_.below hb
            clear hb
            go_wp2_with fail
            go_ret2
            rw [HE.out]
            exact ⟨⟨_, rfl, r56⟩, hB⟩
        | false =>
          cases odd with
          | true =>
            have HE : Hid (er = some (0 - r1)) := Lib.hid (by rw [HER.out, eRoot_yes HQ.out (fun h => absurd (by rw [HR1.out]; exact h) HZ.out), ← HR1.out, if_neg (by rw [← HOB.out]; simp)])
            have sf := sub_f (CanAt.nil0 w19).num c8_.num (tP.below hB)
            go_wp2_with fail
            refine sf.mono ?_; rintro e_ w20 ⟨v56, rfl, hn, hb⟩
            have r56 := hn.mono hB.size
            clear sf hn
            replace hB := hB.trans (hb.mono hB.size)
            replace c21 := c21.below hb
            replace c8_ := c8_.below hb
            replace r8_ := r8_.below hb
            clear hb
            go_wp2_with fail
            go_ret2
            rw [HE.out]
            exact ⟨⟨_, rfl, r56⟩, hB⟩
          | false =>
            have HE : Hid (er = some r1) := Lib.hid (by rw [HER.out, eRoot_yes HQ.out (fun h => absurd (by rw [HR1.out]; exact h) HZ.out), ← HR1.out, if_pos (by rw [← HOB.out])])
            go_wp2_with fail
            go_ret2
            rw [HE.out]
            exact ⟨⟨_, rfl, r8_⟩, hB⟩
    · skip
      obtain ⟨ck, hck⟩ : ∃ c, c = cmpI ((r1 * r1)).val (xx).val := ⟨_, rfl⟩
      have hne : (ck != 0) = true := by rw [hck]; simpa using cmpI_ne_ (fun h => hq_ (fp_ext h))
      have h_ := cmp_v c39.num c21.num
      rw [← hck] at h_
      clear hck
      have HE : Hid (er = none) := Lib.hid (by rw [HER.out]; exact eRoot_no1 (by rw [← HR1.out, ← HXX.out]; exact hq_))
      clear hq_
      refine h_.mono ?_; rintro e_ w18 ⟨rfl, hd_⟩
      have hb := hd_.b
      clear h_ hd_
      replace hB := hB.trans (hb.mono hB.size)
      replace c21 := c21.below hb
      replace c8_ := c8_.below hb
      replace r8_ := r8_.below hb
      replace c39 := c39.below hb
      clear hb
      go_wp2_with fail
      go_ret2
      rw [HE.out]
      exact ⟨rfl, hB⟩
  · skip
    obtain ⟨ck, hck⟩ : ∃ c, c = cmpI ((r0 * r0)).val (xx).val := ⟨_, rfl⟩
    have hne : (ck != 0) = true := by rw [hck]; simpa using cmpI_ne_ (fun h => hq_ (fp_ext h))
    have h_ := cmp_v c30.num c21.num
    rw [← hck] at h_
    clear hck
    have HQ0 : Hid (eR0 y * eR0 y ≠ eXX y) := Lib.hid (by rw [← HR0.out, ← HXX.out]; exact hq_)
    clear hq_
    refine h_.mono ?_; rintro e_ w16 ⟨rfl, hd_⟩
    have hb := hd_.b
    clear h_ hd_
    replace hB := hB.trans (hb.mono hB.size)
    replace c21 := c21.below hb
    replace c27 := c27.below hb
    replace r27 := r27.below hb
    replace c30 := c30.below hb
    clear hb
    clear c30
    go_wp2_with fail
    refine (root_c w16 (tI.below hB)).mono ?_; rintro e_ w17 ⟨v35, rfl, c35, hb⟩
    replace hB := hB.trans (hb.mono hB.size)
    replace c21 := c21.below hb
    replace c27 := c27.below hb
    replace r27 := r27.below hb
    clear hb
    go_wp2_with fail
    refine (mul_f c27.num c35.num (tP.below hB)).mono ?_; rintro e_ w18 ⟨v36, rfl, hn, hb⟩
    have c36 := hn.fp
    have r36 := hn.mono hB.size
    replace hB := hB.trans (hb.mono hB.size)
    replace c21 := c21.below hb
    replace c27 := c27.below hb
    replace r27 := r27.below hb
    replace c35 := c35.below hb
    clear hb hn
    obtain ⟨r1, hr1⟩ : ∃ r : Fp, r = r0 * eI := ⟨_, rfl⟩
    rw [← hr1] at c36 r36
    have HR1_ := Lib.hid hr1
    clear hr1 c27 r27
    have c8_ := c36
    have r8_ := r36
    clear c36 r36
    clear c35
    have HR1 : Hid (r1 = eR1 y) := Lib.hid (by rw [eR1_no HQ0.out, HR1_.out, HR0.out])
    go_wp2_with fail
    refine (mul_f c8_.num c8_.num (tP.below hB)).mono ?_; rintro e_ w19 ⟨v39, rfl, hn, hb⟩
    have c39 := hn.fp
    replace hB := hB.trans (hb.mono hB.size)
    replace c21 := c21.below hb
    replace c8_ := c8_.below hb
    replace r8_ := r8_.below hb
    clear hb hn
    go_wp2_with fail
    by_cases hq_ : (r1 * r1) = xx
    · skip
      have h_ := cmp_v c39.num c21.num
      rw [cmpI_eq (congrArg Fin.val hq_)] at h_
      have HQ : Hid (eR1 y * eR1 y = eXX y) := Lib.hid (by rw [← HR1.out, ← HXX.out]; exact hq_)
      clear hq_
      refine h_.mono ?_; rintro e_ w20 ⟨rfl, hd_⟩
      have hb := hd_.b
      clear h_ hd_
      replace hB := hB.trans (hb.mono hB.size)
      replace c21 := c21.below hb
      replace c8_ := c8_.below hb
      replace r8_ := r8_.below hb
      replace c39 := c39.below hb
      clear hb
      clear c39
      have bc := bits_v c8_.num
      obtain ⟨bk, hbk⟩ : ∃ b, b = bl r1.val := ⟨_, rfl⟩
      rw [← hbk] at bc
      by_cases hz_ : r1 = 0
      · skip
        obtain rfl : bk = 0 := by rw [hbk]; exact fp_bl0.2 hz_
        cases odd with
        | true =>
          have HE : Hid (er = none) := Lib.hid (by rw [HER.out]; exact eRoot_no2 (by rw [← HR1.out]; exact hz_))
          clear hbk hz_
          go_wp2_with fail
          refine bc.mono ?_; rintro e_ w' ⟨rfl, rfl⟩
          clear bc
          go_wp2_with fail
          go_ret2
          rw [HE.out]
          exact ⟨rfl, hB⟩
        | false =>
          have hne2 : eOdd r1 = false := by rw [hz_]; decide +kernel
          have HE : Hid (er = some r1) := Lib.hid (by rw [HER.out, eRoot_yes HQ.out (fun _ => rfl), ← HR1.out, if_pos hne2])
          have h0_ : r1.val % 2 = 0 := by rw [hz_, fp_zero]
          clear hbk hz_ hne2
          go_wp2_with fail
          refine bc.mono ?_; rintro e_ w' ⟨rfl, rfl⟩
          clear bc
          have b0 := bit0_v c8_.num
          rw [h0_] at b0
          clear h0_
          go_wp2_with fail
          refine b0.mono ?_; rintro e_ w21 ⟨rfl, hd_⟩
          have hb := hd_.b
          clear b0 hd_
          replace hB := hB.trans (hb.mono hB.size)
          replace c21 := c21.below hb
          replace c8_ := c8_.below hb
          replace r8_ := r8_.below hb
          clear hb
          go_wp2_with fail
          go_ret2
          rw [HE.out]
          exact ⟨⟨_, rfl, r8_⟩, hB⟩
      · skip
        have hb0 : (bk == 0) = false := by have := fun h => hz_ (fp_bl0.1 (hbk ▸ h)); simpa using this
        have hb1 : ((bk : Int) == 0) = false := by have : bk ≠ 0 := by simpa using hb0
                                                   simp; omega
        have HZ := Lib.hid hz_
        clear hbk hz_
        go_wp2_with fail
        refine bc.mono ?_; rintro e_ w' ⟨rfl, rfl⟩
        clear bc
        have b0 := bit0_v c8_.num
        obtain ⟨ob, hob⟩ : ∃ b, b = decide (r1.val % 2 = 1) := ⟨_, rfl⟩
        have HOB : Hid (ob = eOdd r1) := Lib.hid (by rw [hob]; unfold eOdd; by_cases h : r1.val % 2 = 1 <;> simp [h])
        rw [← hob] at b0
        clear hob
        go_wp2_with fail
        refine b0.mono ?_; rintro e_ w21 ⟨rfl, hd_⟩
        have hb := hd_.b
        clear b0 hd_
        replace hB := hB.trans (hb.mono hB.size)
        replace c21 := c21.below hb
        replace c8_ := c8_.below hb
        replace r8_ := r8_.below hb
        clear hb
        cases ob with
        | true =>
          cases odd with
          | true =>
            have HE : Hid (er = some r1) := Lib.hid (by rw [HER.out, eRoot_yes HQ.out (fun h => absurd (by rw [HR1.out]; exact h) HZ.out), ← HR1.out, if_pos (by rw [← HOB.out])])
            go_wp2_with fail
            go_ret2
            rw [HE.out]
            exact ⟨⟨_, rfl, r8_⟩, hB⟩
          | false =>
            have HE : Hid (er = some (0 - r1)) := Lib.hid (by rw [HER.out, eRoot_yes HQ.out (fun h => absurd (by rw [HR1.out]; exact h) HZ.out), ← HR1.out, if_neg (by rw [← HOB.out]; simp)])
            have sf := sub_f (CanAt.nil0 w21).num c8_.num (tP.below hB)
            go_wp2_with fail
            refine sf.mono ?_; rintro e_ w22 ⟨v56, rfl, hn, hb⟩
            have r56 := hn.mono hB.size
            clear sf hn
            replace hB := hB.trans (hb.mono hB.size)
            replace c21 := c21.below hb
            replace c8_ := c8_.below hb
            replace r8_ := r8_.below hb
            clear hb
            go_wp2_with fail
            go_ret2
            rw [HE.out]
            exact ⟨⟨_, rfl, r56⟩, hB⟩
        | false =>
          cases odd with
          | true =>
            have HE : Hid (er = some (0 - r1)) := Lib.hid (by rw [HER.out, eRoot_yes HQ.out (fun h => absurd (by rw [HR1.out]; exact h) HZ.out), ← HR1.out, if_neg (by rw [← HOB.out]; simp)])
            have sf := sub_f (CanAt.nil0 w21).num c8_.num (tP.below hB)
            go_wp2_with fail
            refine sf.mono ?_; rintro e_ w22 ⟨v56, rfl, hn, hb⟩
            have r56 := hn.mono hB.size
            clear sf hn
            replace hB := hB.trans (hb.mono hB.size)
            replace c21 := c21.below hb
            replace c8_ := c8_.below hb
            replace r8_ := r8_.below hb
            clear hb
            go_wp2_with fail
            go_ret2
            rw [HE.out]
            exact ⟨⟨_, rfl, r56⟩, hB⟩
          | false =>
            have HE : Hid (er = some r1) := Lib.hid (by rw [HER.out, eRoot_yes HQ.out (fun h => absurd (by rw [HR1.out]; exact h) HZ.out), ← HR1.out, if_pos (by rw [← HOB.out])])
            go_wp2_with fail
            go_ret2
            rw [HE.out]
            exact ⟨⟨_, rfl, r8_⟩, hB⟩
    · skip
      obtain ⟨ck, hck⟩ : ∃ c, c = cmpI ((r1 * r1)).val (xx).val := ⟨_, rfl⟩
      have hne : (ck != 0) = true := by rw [hck]; simpa using cmpI_ne_ (fun h => hq_ (fp_ext h))
      have h_ := cmp_v c39.num c21.num
      rw [← hck] at h_
      clear hck
      have HE : Hid (er = none) := Lib.hid (by rw [HER.out]; exact eRoot_no1 (by rw [← HR1.out, ← HXX.out]; exact hq_))
      clear hq_
      refine h_.mono ?_; rintro e_ w20 ⟨rfl, hd_⟩
      have hb := hd_.b
      clear h_ hd_
      replace hB := hB.trans (hb.mono hB.size)
      replace c21 := c21.below hb
      replace c8_ := c8_.below hb
      replace r8_ := r8_.below hb
      replace c39 := c39.below hb
      clear hb
      go_wp2_with fail
      go_ret2
      rw [HE.out]
      exact ⟨rfl, hB⟩
end Go.Proofs.YtlolkighnnedfaaDoor
/- package ed: Decode, Encode, by their contracts. (Printed by gen_edph.py.) -/
set_option linter.unusedVariables false
set_option linter.unusedSimpArgs false
namespace Go.Proofs.YtlolkighnnedfaaDoor
open Go.RowKit Go.Sg
theorem ap_flip {v v' : Value} (h : ∀ b, v.ownBlock = some b → v'.ownBlock ≠ some b) : ∀ b, v'.ownBlock = some b → v.ownBlock ≠ some b := fun b h1 h2 => h b h2 h1
def DecPost (r : Option Pt) (W : World) (e : Ending) (w' : World) : Prop := match r with
  | some P => PtOk P W e w'
  | none => NoPt 93 W e w'

set_option maxHeartbeats 4000000 in
set_option maxRecDepth 20000 in
theorem Decode_c {a : Option Addr} {cap : Nat} {xs : List Int} {w : World} (hx : Sl .u8 w a cap xs) (ux : U8 xs) (hl : xs.length ≤ 140737488350000) (tP : TabAt w 0 limbP) (tD : TabAt w 3 limbD) (tI : TabAt w 4 limbI) :
    Calls Tryd.prog 13 #[.slice a xs.length cap] w (DecPost (decB xs) w) := by
  obtain ⟨dr, hdr⟩ : ∃ r, r = decB xs := ⟨_, rfl⟩
  rw [← hdr]
  have HDR := Lib.hid hdr
  clear hdr
  by_cases h32 : xs.length = 32
  · skip
    have H32 := Lib.hid h32
    obtain ⟨b_, off_, rfl, _⟩ := hx.cells (by omega)
    obtain ⟨b, hb31⟩ : ∃ b : Nat, (b : Int) = nth xs 31 := ⟨(nth xs 31).toNat, by have := ux 31; omega⟩
    have hbr : b < 256 := by have := ux 31; omega
    have h127 := and127 b hbr
    have h128 := and128 b hbr
    obtain ⟨m, hm⟩ : ∃ m : Nat, m = b % 128 := ⟨_, rfl⟩
    rw [← hm] at h127
    have LB := Lib.hid (lnum_bits h32 ux hb31)
    rw [← hm] at LB
    have HB31 := Lib.hid hb31
    have UM : U8 (xs.set 31 (m : Int)) := ux.set 31 (by omega) (by omega)
    rw [h32]
    clear hm hl hb31 hbr
    go_enter Tryd.func13, Tryd.ntmps13
    have hB := Below.refl w.heap.size w
    go_wp2_with (refine wpList_alloc_agg rfl 29 rfl [(.slice none 0 0), (.slice none 0 0), (.bool false)] 3 (by kernel_rfl) ?_)
    intro w1 hk2 hb
    have hz_ := hB.size
    replace hB := hB.trans (hb.mono hB.size)
    clear hb
    obtain ⟨g2, hg_⟩ : ∃ g, g = w.heap.size := ⟨_, rfl⟩
    rw [← hg_] at hk2 ⊢
    have HG2 : Hid (w.heap.size ≤ g2) := Lib.hid (by rw [hg_]; exact hz_)
    clear hg_ hz_
    have cc := Clone_c ⟨b_, off_, none⟩ cap xs w1 (hx.below hB) (by omega)
    rw [h32] at cc
    clear h32
    go_wp2_with fail
    refine cc.mono ?_; rintro e_ w2 ⟨v14, rfl, hn, hb⟩
    obtain ⟨gc, cp, rfl, hgc, kc⟩ := hn.pre (by have := H32.out; omega)
    have ne2c : Hid (g2 ≠ gc) := Lib.hid (by have := hk2.lt; omega)
    have HGC : Hid (w.heap.size ≤ gc) := Lib.hid (by have := hB.size; omega)
    replace hB := hB.trans (hb.mono hB.size)
    replace hk2 := hk2.keep hb
    clear hb hn cc hgc
    rw [H32.out]
    have c31 := kc.cell 31 (by rw [H32.out]; omega)
    have f31 := kc.free 31
    rw [← HB31.out] at c31
    obtain ⟨o, ho, hon⟩ : ∃ o : Bool, o = decide (128 ≤ b) ∧ (bits .and .u8 (b : Int) 128 != 0) = o := ⟨_, rfl, by rw [h128]; by_cases h : 128 ≤ b <;> simp [h]⟩
    have HO : Hid (o = decide (2 ^ 255 ≤ lnum xs)) := Lib.hid (by rw [ho]; exact decide_eq_decide.2 LB.out.2.symm)
    clear h128 ho
    obtain ⟨q128, hq128⟩ : ∃ q, q = bits .and .u8 (b : Int) 128 := ⟨_, rfl⟩
    rw [← hq128] at hon
    have hqs := hq128.symm
    clear hq128
    have kc2 := kc.set 31 (m : Int)
    have hk2s := hk2.other ne2c.out 31 (.int .u8 (m : Int))
    have hbs := hB.setCell (p := ⟨gc, 31, none⟩) HGC.out (.int .u8 (m : Int))
    have sx := kc2.sl
    have nc := number_c (some ⟨gc, 0, none⟩) cp (xs.set 31 (m : Int)) _ sx UM (by rw [List.length_set, H32.out]; omega) (by rw [List.length_set, H32.out]; omega)
    rw [List.length_set, H32.out, LB.out.1] at nc
    clear sx kc2 kc hB hk2
    go_wp2_with fail
    obtain ⟨w3, hw_⟩ : ∃ x, x = World.setCell w2 ⟨gc, 31, none⟩ (.int .u8 (m : Int)) := ⟨_, rfl⟩
    rw [← hw_] at nc hk2s hbs ⊢
    clear hw_ c31 f31
    have hk2 := hk2s
    have hB := hbs
    clear hk2s hbs
    obtain ⟨yn, hyn⟩ : ∃ y, y = lnum xs % 2 ^ 255 := ⟨_, rfl⟩
    rw [← hyn] at nc
    have HYN := Lib.hid hyn
    have ylt : yn < 2 ^ 255 := by rw [hyn]; exact Nat.mod_lt _ (Nat.pow_pos (by omega))
    have ylim : Lim 8 yn := ⟨Nat.lt_trans ylt (by decide +kernel)⟩
    clear hyn ylt hqs hon h127
    refine nc.mono ?_; rintro e_ w4 ⟨v26, rfl, hn, hb⟩
    have r26 := hn.mono (Nat.succ_le_of_lt hk2.lt)
    clear nc
    replace hB := hB.trans (hb.mono hB.size)
    replace hk2 := hk2.keep hb
    have c26 := hn.can ylim (by omega)
    clear hb hn
    by_cases hy : yn < eP
    · skip
      obtain ⟨y, rfl⟩ : ∃ y : Fp, yn = y.val := ⟨⟨yn, hy⟩, rfl⟩
      have HX := Lib.hid (cmpI_lt hy)
      clear hy ylim
      go_wp2_with fail
      refine (prime_c w4 (tP.below hB)).mono ?_; rintro e_ w5 ⟨v28, rfl, c28, hb⟩
      replace hB := hB.trans (hb.mono hB.size)
      replace hk2 := hk2.keep hb
      replace r26 := r26.below hb
      replace c26 := c26.below hb
      clear hb
      have h_ := cmp_v c26.num c28.num
      rw [HX.out] at h_
      go_wp2_with fail
      refine (h_).mono ?_; rintro e_ w6 ⟨rfl, hd_⟩
      have hb := hd_.b
      replace hB := hB.trans (hb.mono hB.size)
      replace hk2 := hk2.keep hb
      replace r26 := r26.below hb
      replace c26 := c26.below hb
      replace c28 := c28.below hb
      clear hb hd_ h_
      have ac := abscissa_c (odd := o) c26.num (tP.below hB) (tD.below hB) (tI.below hB)
      have HE0 := Lib.hid (decB_is H32.out HYN.out.symm HO.out)
      rw [← HDR.out] at HE0
      cases hr : eRoot y o with
      | none =>
        rw [hr] at ac
        have HE : Hid (dr = none) := Lib.hid (by rw [HE0.out, hr]; rfl)
        clear hr
        go_wp2_with fail
        refine ac.mono ?_; rintro e_ w7 ⟨rfl, hb⟩
        clear ac
        replace hB := hB.trans (hb.mono hB.size)
        replace hk2 := hk2.keep hb
        replace r26 := r26.below hb
        replace c26 := c26.below hb
        replace c28 := c28.below hb
        clear hb
        go_wp2_with (refine wpList_store_agg rfl 29 _ _ rfl g2 29 [(.slice none 0 0), (.slice none 0 0), (.bool false)] [(.slice none 0 0), (.slice none 0 0), (.bool false)] rfl rfl hk2 size_pt (by intro v_ hv_; simp only [List.mem_cons, List.not_mem_nil, or_false] at hv_; rcases hv_ with rfl | rfl | rfl <;> rfl) rfl ?_)
        intro w8 hn hg
        replace hB := hB.grown hg hB.size (by intro k_ hk_; cases hk_; exact HG2.out)
        replace hk2 := hn
        replace r26 := r26.past hg
        clear c26
        clear c28
        clear hn hg
        go_wp2_with fail
        refine bodyPost_ret (results_agg_tmp rfl rfl hk2 Tryd.underlying29 rfl size_pt) rfl ?_
        rw [HE.out]
        exact ⟨rfl, hB⟩
      | some x =>
        rw [hr] at ac
        have HE : Hid (dr = some (x, y)) := Lib.hid (by rw [HE0.out, hr]; rfl)
        clear hr
        go_wp2_with fail
        refine ac.mono ?_; rintro e_ w7 ⟨⟨v35, rfl, hn⟩, hb⟩
        have r35 := hn.mono (Nat.succ_le_of_lt hk2.lt)
        have c35 := hn.fp
        have ap35 := ap_flip (NatRes.apart r26 hn)
        clear ac hn
        replace hB := hB.trans (hb.mono hB.size)
        replace hk2 := hk2.keep hb
        replace r26 := r26.below hb
        replace c26 := c26.below hb
        replace c28 := c28.below hb
        clear hb
        obtain ⟨a35_, n35_, p35_, rfl⟩ := c35.sliced
        obtain ⟨a26_, n26_, p26_, rfl⟩ := c26.sliced
        go_wp2_with (refine wpList_store_agg rfl 29 _ _ rfl g2 29 [(.slice none 0 0), (.slice none 0 0), (.bool false)] [(.slice a35_ n35_ p35_), (.slice a26_ n26_ p26_), (.bool false)] rfl rfl hk2 size_pt (by intro v_ hv_; simp only [List.mem_cons, List.not_mem_nil, or_false] at hv_; rcases hv_ with rfl | rfl | rfl <;> first | rfl | exact c35.one_cell | exact c26.one_cell) rfl ?_)
        intro w8 hn hg
        replace hB := hB.grown hg hB.size (by intro k_ hk_; cases hk_; exact HG2.out)
        replace hk2 := hn
        replace r26 := r26.past hg
        clear c26
        clear c28
        replace r35 := r35.past hg
        clear c35
        clear hn hg
        go_wp2_with fail
        refine bodyPost_ret (results_agg_tmp rfl rfl hk2 Tryd.underlying29 rfl size_pt) rfl ?_
        rw [HE.out]
        exact ⟨_, rfl, ⟨_, _, rfl, r35.mono (Nat.le_succ_of_le HG2.out), r26.mono (Nat.le_succ_of_le HG2.out), ap35⟩, hB⟩
    · skip
      have HE : Hid (dr = none) := Lib.hid (by rw [HDR.out]; exact decB_big (by rw [← HYN.out]; exact hy))
      obtain ⟨cj, hcj⟩ : ∃ c, c = cmpI yn eP := ⟨_, rfl⟩
      have hdc : decide ((0 : Int) ≤ cj) = true := decide_eq_true (by rw [hcj]; exact cmpI_ge_ hy)
      have HCJ := Lib.hid hcj
      clear hy hcj ylim
      go_wp2_with fail
      refine (prime_c w4 (tP.below hB)).mono ?_; rintro e_ w5 ⟨v28, rfl, c28, hb⟩
      replace hB := hB.trans (hb.mono hB.size)
      replace hk2 := hk2.keep hb
      replace r26 := r26.below hb
      replace c26 := c26.below hb
      clear hb
      have h_ := cmp_v c26.num c28.num
      rw [← HCJ.out] at h_
      go_wp2_with fail
      refine (h_).mono ?_; rintro e_ w6 ⟨rfl, hd_⟩
      have hb := hd_.b
      replace hB := hB.trans (hb.mono hB.size)
      replace hk2 := hk2.keep hb
      replace r26 := r26.below hb
      replace c26 := c26.below hb
      replace c28 := c28.below hb
      clear hb hd_ h_
      go_wp2_with (refine wpList_store_agg rfl 29 _ _ rfl g2 29 [(.slice none 0 0), (.slice none 0 0), (.bool false)] [(.slice none 0 0), (.slice none 0 0), (.bool false)] rfl rfl hk2 size_pt (by intro v_ hv_; simp only [List.mem_cons, List.not_mem_nil, or_false] at hv_; rcases hv_ with rfl | rfl | rfl <;> rfl) rfl ?_)
      intro w7 hn hg
      replace hB := hB.grown hg hB.size (by intro k_ hk_; cases hk_; exact HG2.out)
      replace hk2 := hn
      replace r26 := r26.past hg
      clear c26
      clear c28
      clear hn hg
      go_wp2_with fail
      refine bodyPost_ret (results_agg_tmp rfl rfl hk2 Tryd.underlying29 rfl size_pt) rfl ?_
      rw [HE.out]
      exact ⟨rfl, hB⟩
  · skip
    have HE : Hid (dr = none) := Lib.hid (by rw [HDR.out]; exact decB_len h32)
    have g1 : ((xs.length : Int) != 32) = true := by simp; omega
    clear h32 hl
    go_enter Tryd.func13, Tryd.ntmps13
    have hB := Below.refl w.heap.size w
    go_wp2_with (refine wpList_alloc_agg rfl 29 rfl [(.slice none 0 0), (.slice none 0 0), (.bool false)] 3 (by kernel_rfl) ?_)
    intro w1 hk2 hb
    have hz_ := hB.size
    replace hB := hB.trans (hb.mono hB.size)
    clear hb
    obtain ⟨g2, hg_⟩ : ∃ g, g = w.heap.size := ⟨_, rfl⟩
    rw [← hg_] at hk2 ⊢
    have HG2 : Hid (w.heap.size ≤ g2) := Lib.hid (by rw [hg_]; exact hz_)
    clear hg_ hz_
    go_wp2_with (refine wpList_store_agg rfl 29 _ _ rfl g2 29 [(.slice none 0 0), (.slice none 0 0), (.bool false)] [(.slice none 0 0), (.slice none 0 0), (.bool false)] rfl rfl hk2 size_pt (by intro v_ hv_; simp only [List.mem_cons, List.not_mem_nil, or_false] at hv_; rcases hv_ with rfl | rfl | rfl <;> rfl) rfl ?_)
    intro w2 hn hg
    replace hB := hB.grown hg hB.size (by intro k_ hk_; cases hk_; exact HG2.out)
    replace hk2 := hn
    clear hn hg
    go_wp2_with fail
    refine bodyPost_ret (results_agg_tmp rfl rfl hk2 Tryd.underlying29 rfl size_pt) rfl ?_
    rw [HE.out]
    exact ⟨rfl, hB⟩
end Go.Proofs.YtlolkighnnedfaaDoor
/- package ed: Encode by its contract. (Printed by gen_edpi.py.) -/
set_option linter.unusedVariables false
set_option linter.unusedSimpArgs false
namespace Go.Proofs.YtlolkighnnedfaaDoor
open Go.RowKit Go.Sg
theorem fixed32_v {v : Value} {x : Fp} {W : World} (h : NumAt W v x.val) : Calls Tryd.prog 59 #[v, .int .i64 32] W fun e w' => ∃ v', e = .returned (.tuple #[v', .bool true]) ∧ New W.heap.size .u8 5 w' v' (beN x.val 32) ∧ Below W.heap.size W w' := by
  obtain ⟨a, c, zs, rfl, s, u, hv, hl⟩ := h
  have h1 := Fixed_c _ _ zs 32 W s u (by omega) ⟨by omega, by omega⟩
  have hf : fitB (val zs) 32 = true := by
    refine decide_eq_true ⟨by omega, by omega, ?_⟩
    have h2 := (fp_256 x).1
    rw [hv]
    have h3 := (bl_le_iff x.val 255).2 h2
    unfold blen
    omega
  unfold FixedPost fixL at h1
  rw [hf, if_pos rfl, hv] at h1
  exact h1
def EncOk (Q : Pt) (W : World) (e : Ending) (w' : World) : Prop := ∃ v, e = .returned (.tuple #[v, .int .i64 0]) ∧ New W.heap.size .u8 5 w' v (encB Q) ∧ Below W.heap.size W w'
def EncNo (W : World) (e : Ending) (w' : World) : Prop := e = .returned (.tuple #[.slice none 0 0, .int .i64 93]) ∧ Below W.heap.size W w'

set_option maxHeartbeats 4000000 in
set_option maxRecDepth 20000 in
theorem enc_ok {va : Value} {Q : Pt} {w : World} (ha : PtIn w va Q.1.val Q.2.val false) (oQ : OnC Q) (tP : TabAt w 0 limbP) (tD : TabAt w 3 limbD) :
    Calls Tryd.prog 17 #[va] w (EncOk Q w) := by
  have O1 := Lib.hid (onB_of oQ)
  clear oQ
  obtain ⟨vax, vay, rfl, nax, nay⟩ := ha
  go_enter Tryd.func17, Tryd.ntmps17
  have hB := Below.refl w.heap.size w
  go_wp2_with (refine wpList_box_agg rfl 29 _ rfl [vax, vay, .bool false] rfl ?_)
  intro w1 hk1 hb
  have hz_ := hB.size
  replace hB := hB.trans (hb.mono hB.size)
  clear hb
  obtain ⟨g1, hg_⟩ : ∃ g, g = w.heap.size := ⟨_, rfl⟩
  rw [← hg_] at hk1 ⊢
  have HG1 : Hid (w.heap.size ≤ g1) := Lib.hid (by rw [hg_]; exact hz_)
  clear hg_ hz_
  have h_ := on_c (inf := false) ⟨_, _, rfl, nax.below hB, nay.below hB⟩ (tP.below hB) (tD.below hB)
  rw [O1.out] at h_
  go_wp2_with (refine wpList_load_agg rfl 29 _ rfl g1 rfl _ [vax, vay, .bool false] _ hk1 Tryd.underlying29 rfl size_pt ?_)
  refine (h_).mono ?_; rintro e_ w2 ⟨rfl, hb⟩
  replace hB := hB.trans (hb.mono hB.size)
  replace hk1 := hk1.keep hb
  clear hb h_
  have q0_ := hk1.cell 1 rfl
  have fx := fixed32_v (nay.below hB)
  go_wp2_with fail
  clear q0_
  refine fx.mono ?_; rintro e_ w3 ⟨v12, rfl, hn, hb⟩
  obtain ⟨gc, cp, rfl, hgc, kc⟩ := hn.pre (by rw [beN_len]; omega)
  have HGC : Hid (w.heap.size ≤ gc) := Lib.hid (by have := hB.size; omega)
  have ne1c : Hid (g1 < gc) := Lib.hid (by have := hk1.lt; omega)
  replace hB := hB.trans (hb.mono hB.size)
  replace hk1 := hk1.keep hb
  clear hb hn fx hgc
  have rc := Reverse_c gc cp 5 (beN Q.2.val 32) w3 kc
  rw [beN_len] at rc ⊢
  go_wp2_with fail
  refine rc.mono ?_; rintro e_ w4 ⟨rfl, kc2, hb⟩
  replace hB := hB.trans (hb.mono HGC.out)
  replace hk1 := hk1.below hb ne1c.out
  clear rc kc hb
  obtain ⟨L, hL⟩ : ∃ L, L = (beN Q.2.val 32).reverse := ⟨_, rfl⟩
  rw [← hL] at kc2
  have HLL : Hid (L.length = 32) := Lib.hid (by rw [hL, List.length_reverse, beN_len])
  have uL : U8 L := by rw [hL]; exact (beN_u8 _ _).reverse (by omega)
  have HL := Lib.hid hL
  clear hL
  have q0_ := hk1.cell 0 rfl
  have bc := bit0_v (nax.below hB)
  by_cases hx2 : Q.1.val % 2 = 1
  · skip
    have hd2 : decide (Q.1.val % 2 = 1) = true := decide_eq_true hx2
    rw [hd2] at bc
    obtain ⟨b, hb31⟩ : ∃ b : Nat, (b : Int) = nth L 31 := ⟨(nth L 31).toNat, by have := uL 31; omega⟩
    have EO := encB_odd hx2 (b := b) (by rw [← HL.out]; exact hb31)
    have h128 := or128 b EO.1
    have EO2 := Lib.hid EO.2
    rw [← HL.out] at EO2
    have HB31 := Lib.hid hb31
    clear hx2 hd2 hb31 EO
    go_wp2_with fail
    refine bc.mono ?_; rintro e_ w5 ⟨rfl, hd_⟩
    have hb := hd_.b
    replace kc2 := kc2.keep hb
    clear bc hd_ q0_
    replace hB := hB.trans (hb.mono hB.size)
    replace hk1 := hk1.keep hb
    clear hb
    have c31 := kc2.cell 31 (by rw [HLL.out]; omega)
    have f31 := kc2.free 31
    rw [← HB31.out] at c31
    have kc3 := kc2.set 31 ((b + 128 : Nat) : Int)
    have hB3 := hB.setCell (p := ⟨gc, 31, none⟩) HGC.out (.int .u8 ((b + 128 : Nat) : Int))
    have hN := kc3.new HGC.out
    rw [List.length_set, HLL.out, EO2.out] at hN
    clear kc3 kc2 hB hk1
    go_wp2_with fail
    go_ret2
    exact ⟨_, rfl, hN, hB3⟩
  · skip
    have hd2 : decide (Q.1.val % 2 = 1) = false := decide_eq_false hx2
    rw [hd2] at bc
    have EO := Lib.hid (encB_even hx2)
    rw [← HL.out] at EO
    clear hx2 hd2
    go_wp2_with fail
    refine bc.mono ?_; rintro e_ w5 ⟨rfl, hd_⟩
    have hb := hd_.b
    replace kc2 := kc2.keep hb
    clear bc hd_ q0_
    replace hB := hB.trans (hb.mono hB.size)
    replace hk1 := hk1.keep hb
    clear hb
    have hN := kc2.new HGC.out
    rw [HLL.out, ← EO.out] at hN
    go_wp2_with fail
    go_ret2
    exact ⟨_, rfl, hN, hB⟩
set_option maxHeartbeats 4000000 in
set_option maxRecDepth 20000 in
theorem enc_no {va : Value} {X Y : Nat} {i : Bool} {w : World} (ha : PtIn w va X Y i) (o1 : onB X Y i = false) (tP : TabAt w 0 limbP) (tD : TabAt w 3 limbD) :
    Calls Tryd.prog 17 #[va] w (EncNo w) := by
  have O1 := Lib.hid o1
  clear o1
  obtain ⟨vax, vay, rfl, nax, nay⟩ := ha
  go_enter Tryd.func17, Tryd.ntmps17
  have hB := Below.refl w.heap.size w
  go_wp2_with (refine wpList_box_agg rfl 29 _ rfl [vax, vay, .bool i] rfl ?_)
  intro w1 hk1 hb
  have hz_ := hB.size
  replace hB := hB.trans (hb.mono hB.size)
  clear hb
  obtain ⟨g1, hg_⟩ : ∃ g, g = w.heap.size := ⟨_, rfl⟩
  rw [← hg_] at hk1 ⊢
  have HG1 : Hid (w.heap.size ≤ g1) := Lib.hid (by rw [hg_]; exact hz_)
  clear hg_ hz_
  have h_ := on_c (inf := i) ⟨_, _, rfl, nax.below hB, nay.below hB⟩ (tP.below hB) (tD.below hB)
  rw [O1.out] at h_
  go_wp2_with (refine wpList_load_agg rfl 29 _ rfl g1 rfl _ [vax, vay, .bool i] _ hk1 Tryd.underlying29 rfl size_pt ?_)
  refine (h_).mono ?_; rintro e_ w2 ⟨rfl, hb⟩
  replace hB := hB.trans (hb.mono hB.size)
  replace hk1 := hk1.keep hb
  clear hb h_
  go_wp2_with fail
  go_ret2
  exact ⟨rfl, hB⟩
end Go.Proofs.YtlolkighnnedfaaDoor
