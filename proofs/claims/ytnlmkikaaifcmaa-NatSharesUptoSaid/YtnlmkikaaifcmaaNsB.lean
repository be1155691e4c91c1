/- signetlaw6.outcomes by its contract. (Printed by gen_nsa.py.) -/
import Derived.Test.YtnlmkikaaifcmaaNsA
set_option linter.unusedVariables false
set_option linter.unusedSimpArgs false
namespace Go.Proofs.Ytnlmkikaaifcmaa
open Go.RowKit Go.Sg
set_option maxHeartbeats 4000000 in
set_option maxRecDepth 20000 in
theorem outcomes_c {va vd : Value} {x y k : Nat} {w : World} (na : NumAt w va x) (nd : NumAt w vd y) (hx : Lim 4096 x) (hy : Lim 4096 y) (hk : k ≤ 1024) :
    Calls Try.prog 5 #[va, vd, .int .i64 (k : Int)] w (OutPost x y k w) := by
  have hk2 : k ≤ 131072 := by omega
  have hB := Below.refl w.heap.size w
  have hF := FamL.nil w.heap.size w
  go_enter Try.func5, Try.ntmps5
  go_wp2_with fail
  refine (add_v (na.below hB) (nd.below hB)).mono ?_; rintro e_ w1 ⟨v1, rfl, r1, hb⟩
  obtain ⟨a1, l1, c1, rfl⟩ := r1.slc
  replace hF := hF.push hB.size hb r1
  replace hB := hB.trans (hb.mono hB.size)
  clear hb r1
  go_wp2_with fail
  refine (add_v (na.below hB) (na.below hB)).mono ?_; rintro e_ w2 ⟨v2, rfl, r2, hb⟩
  obtain ⟨a2, l2, c2, rfl⟩ := r2.slc
  replace hF := hF.push hB.size hb r2
  replace hB := hB.trans (hb.mono hB.size)
  clear hb r2
  go_wp2_with fail
  refine (sub_n (na.below hB) (nd.below hB)).mono ?_; rintro e_ w3 ⟨v3, k3_, rfl, r3, hb⟩
  obtain ⟨a3, l3, c3, rfl⟩ := r3.slc
  replace hF := hF.push hB.size hb r3
  replace hB := hB.trans (hb.mono hB.size)
  clear hb r3
  go_wp2_with fail
  refine (sub_n (na.below hB) (na.below hB)).mono ?_; rintro e_ w4 ⟨v4, k4_, rfl, r4, hb⟩
  obtain ⟨a4, l4, c4, rfl⟩ := r4.slc
  replace hF := hF.push hB.size hb r4
  replace hB := hB.trans (hb.mono hB.size)
  clear hb r4
  go_wp2_with fail
  refine (mul_v (na.below hB) (nd.below hB)).mono ?_; rintro e_ w5 ⟨v5, rfl, r5, hb⟩
  obtain ⟨a5, l5, c5, rfl⟩ := r5.slc
  replace hF := hF.push hB.size hb r5
  replace hB := hB.trans (hb.mono hB.size)
  clear hb r5
  go_wp2_with fail
  refine (mul_v (nd.below hB) (nd.below hB)).mono ?_; rintro e_ w6 ⟨v6, rfl, r6, hb⟩
  obtain ⟨a6, l6, c6, rfl⟩ := r6.slc
  replace hF := hF.push hB.size hb r6
  replace hB := hB.trans (hb.mono hB.size)
  clear hb r6
  go_wp2_with fail
  refine (div_n (na.below hB) (nd.below hB)).mono ?_; rintro e_ w7 ⟨v7, u7_, k7_, rfl, r7, s7, ap, hb⟩
  obtain ⟨a7, l7, c7, rfl⟩ := r7.slc
  obtain ⟨a7_, l7_, c7_, rfl⟩ := s7.slc
  replace hF := hF.push2 hB.size hb r7 s7 ap
  replace hB := hB.trans (hb.mono hB.size)
  clear hb r7 s7 ap
  go_wp2_with fail
  refine (div_n (na.below hB) (na.below hB)).mono ?_; rintro e_ w8 ⟨v8, u8_, k8_, rfl, r8, s8, ap, hb⟩
  obtain ⟨a8, l8, c8, rfl⟩ := r8.slc
  obtain ⟨a8_, l8_, c8_, rfl⟩ := s8.slc
  replace hF := hF.push2 hB.size hb r8 s8 ap
  replace hB := hB.trans (hb.mono hB.size)
  clear hb r8 s8 ap
  go_wp2_with fail
  refine (div_n (nd.below hB) (na.below hB)).mono ?_; rintro e_ w9 ⟨v9, u9_, k9_, rfl, r9, s9, ap, hb⟩
  obtain ⟨a9, l9, c9, rfl⟩ := r9.slc
  obtain ⟨a9_, l9_, c9_, rfl⟩ := s9.slc
  replace hF := hF.push2 hB.size hb r9 s9 ap
  replace hB := hB.trans (hb.mono hB.size)
  clear hb r9 s9 ap
  go_wp2_with fail
  refine (shl_n (na.below hB) hk2).mono ?_; rintro e_ w10 ⟨v10, rfl, r10, hb⟩
  obtain ⟨a10, l10, c10, rfl⟩ := r10.slc
  replace hF := hF.push hB.size hb r10
  replace hB := hB.trans (hb.mono hB.size)
  clear hb r10
  go_wp2_with fail
  refine (shr_n (na.below hB) hk2).mono ?_; rintro e_ w11 ⟨v11, rfl, r11, hb⟩
  obtain ⟨a11, l11, c11, rfl⟩ := r11.slc
  replace hF := hF.push hB.size hb r11
  replace hB := hB.trans (hb.mono hB.size)
  clear hb r11
  have h0_ := shl_n (k := 0) (na.below hB) (Nat.zero_le _)
  rw [show ((0 : Nat) : Int) = 0 from rfl] at h0_
  go_wp2_with fail
  refine (h0_).mono ?_; rintro e_ w12 ⟨v12, rfl, r12, hb⟩
  obtain ⟨a12, l12, c12, rfl⟩ := r12.slc
  replace hF := hF.push hB.size hb r12
  replace hB := hB.trans (hb.mono hB.size)
  clear hb r12
  clear h0_
  have h0_ := shr_n (k := 0) (nd.below hB) (Nat.zero_le _)
  rw [show ((0 : Nat) : Int) = 0 from rfl] at h0_
  go_wp2_with fail
  refine (h0_).mono ?_; rintro e_ w13 ⟨v13, rfl, r13, hb⟩
  obtain ⟨a13, l13, c13, rfl⟩ := r13.slc
  replace hF := hF.push hB.size hb r13
  replace hB := hB.trans (hb.mono hB.size)
  clear hb r13
  clear h0_
  go_wp2_with fail
  refine (add_v (na.below hB) (num_nil _)).mono ?_; rintro e_ w14 ⟨v14, rfl, r14, hb⟩
  obtain ⟨a14, l14, c14, rfl⟩ := r14.slc
  replace hF := hF.push hB.size hb r14
  replace hB := hB.trans (hb.mono hB.size)
  clear hb r14
  have hb1 := below_one w14 (.cells #[.int .u32 1] 25)
  have n1_ := num_one w14
  have hB1 := hB.trans (hb1.mono hB.size)
  have hF1 := hF.keep hb1
  go_wp2_with fail
  refine (mul_v (na.below hB1) n1_).mono ?_; rintro e_ w15 ⟨v15, rfl, r15, hb⟩
  obtain ⟨a15, l15, c15, rfl⟩ := r15.slc
  replace hF := hF1.push hB1.size hb r15
  replace hB := hB1.trans (hb.mono hB1.size)
  clear hb r15 hb1 n1_ hB1 hF1
  go_wp2_with fail
  refine (sub_n (na.below hB) (num_nil _)).mono ?_; rintro e_ w16 ⟨v16, k16_, rfl, r16, hb⟩
  obtain ⟨a16, l16, c16, rfl⟩ := r16.slc
  replace hF := hF.push hB.size hb r16
  replace hB := hB.trans (hb.mono hB.size)
  clear hb r16
  obtain ⟨us, hus⟩ : ∃ us : List Value, us = [(.slice a1 l1 c1), (.slice a2 l2 c2), (.slice a3 l3 c3), (.slice a4 l4 c4), (.slice a5 l5 c5), (.slice a6 l6 c6), (.slice a7 l7 c7), (.slice a7_ l7_ c7_), (.slice a8 l8 c8), (.slice a8_ l8_ c8_), (.slice a9 l9 c9), (.slice a9_ l9_ c9_), (.slice a10 l10 c10), (.slice a11 l11 c11), (.slice a12 l12 c12), (.slice a13 l13 c13), (.slice a14 l14 c14), (.slice a15 l15 c15), (.slice a16 l16 c16)] := ⟨_, rfl⟩
  replace hF : FamL w.heap.size w16 us (outL x y k) := by rw [hus]; exact hF
  have lus : us.length = 19 := by rw [hus]; rfl
  have HUS := Lib.hid hus
  have HLU := Lib.hid lus
  clear hus lus
  go_wp2_with fail
  go_ret
  have al := (Below.refl w16.heap.size w16).alloc (Nat.le_refl _) (.cells us.toArray 23)
  have hF2 := hF.keep al
  obtain ⟨A, fam, can⟩ := hF2.fam
  rw [HLU.out] at fam can
  have row : NewV w.heap.size 23 (w16.alloc (.cells us.toArray 23)) (.slice (some ⟨w16.heap.size, 0, none⟩) 19 19) ((List.range 19).map fun i => us.getD i undef) := by
    have e := range_getD_self us
    rw [HLU.out] at e
    rw [e]
    refine .inr ⟨_, 19, us.toArray, by rw [HLU.out], hB.size, Go.heap_alloc_new _ _, by rw [HLU.out]; exact Nat.le_refl _, by simp [HLU.out], by omega, ?_⟩
    rw [HLU.out]
    simp only [List.toList_toArray] at *
    rw [← HLU.out, List.take_length]
  rw [HUS.out] at row fam al
  refine ⟨_, _, A, rfl, hB.size, ⟨⟨row, fam⟩, can, fun j hj => ?_⟩, hB.trans (al.mono hB.size)⟩
  exact Lim.len ((outL_lim hx hy hk j hj).eq (can j hj).2.2) (can j hj).1 (can j hj).2.1
end Go.Proofs.Ytnlmkikaaifcmaa
