/- signetlaw4: awake, pick, by their contracts. -/
import Derived.Test.YtiiedgbdooamaaaDoorHmacIsL
import Derived.Test.YtiiedgbdooamaaaDoorCutH
import Derived.Test.YtiiedgbdooamaaaDoorRowsV
set_option linter.unusedVariables false
set_option linter.unusedSimpArgs false
namespace Go.Proofs.YtiiedgbdooamaaaDoor
open Go.RowKit Go.Sg

theorem sha_abc1 : nth (sha 1 [97, 98, 99]) 0 = 186 ∧ nth (sha 1 [97, 98, 99]) 31 = 173 := by rw [sha_abc256]; exact ⟨rfl, rfl⟩
theorem infoS : (Tryd.prog.info? 29).map (fun i => (i.zero, i.size, i.bytes)) = some (some (.slice none 0 0), 1, 24) := by kernel_rfl

set_option maxHeartbeats 4000000 in
set_option maxRecDepth 20000 in
theorem awake_c (w : World) (ht : ShaTabs w) : Calls Tryd.prog 37 #[] w (TellPost true w) := by
  obtain ⟨J, hJ⟩ : ∃ J : List Int, J = [97, 98, 99] := ⟨_, rfl⟩
  have jl : J.length = 3 := by rw [hJ]; rfl
  have uJ : U8 J := by rw [hJ]; exact .of_mem (by omega) (by decide)
  have a1 : nth (sha 1 J) 0 = 186 ∧ nth (sha 1 J) 31 = 173 := by rw [hJ]; exact sha_abc1
  have a2 : nth (sha 2 J) 0 = 203 ∧ nth (sha 2 J) 47 = 167 := by rw [hJ]; exact sha_abc384
  have a3 : nth (sha 3 J) 0 = 221 ∧ nth (sha 3 J) 63 = 159 := by rw [hJ]; exact sha_abc512
  have cv := fun W => Lib.run_convert_bytes_const (P := Tryd.prog) W 29 5 #[.int .u8 97, .int .u8 98, .int .u8 99] 3 3 Tryd.underlying29 Tryd.underlying5
  simp only [List.size_toArray, List.length_cons, List.length_nil, Nat.zero_add, Nat.reduceAdd] at cv
  have lay : ∀ W : World, Sl .u8 (W.alloc (.cells #[.int .u8 97, .int .u8 98, .int .u8 99] 5 (3, 4))) (some ⟨W.heap.size, 0, none⟩) 3 J ∧ Below W.heap.size W (W.alloc (.cells #[.int .u8 97, .int .u8 98, .int .u8 99] 5 (3, 4))) :=
    fun W => ⟨⟨by omega, by omega, cells_marked .u8 W 5 J _ _ (by rw [hJ]; rfl) _ rfl⟩, (Below.refl _ _).alloc (Nat.le_refl _) _⟩
  have hc : ∀ (h : Int) (W : World), ShaTabs W → Calls Tryd.prog 32 #[.int .i64 h, .slice (some ⟨W.heap.size + 1, 0, none⟩) 1 1] ((W.alloc (.cells #[.int .u8 97, .int .u8 98, .int .u8 99] 5 (3, 4))).alloc (.cells #[.slice (some ⟨W.heap.size, 0, none⟩) 3 3] 29)) (BytesPost (sha h J) W) := by
    intro h W t
    have c := Sum1_c h (some ⟨W.heap.size, 0, none⟩) 3 J _ (lay W).1 uJ (by omega) (t.below (lay W).2)
    have e : (W.alloc (.cells #[.int .u8 97, .int .u8 98, .int .u8 99] 5 (3, 4))).heap.size = W.heap.size + 1 := by simp
    rw [e, jl] at c
    refine c.mono ?_
    rintro e' w' ⟨v, rfl, hv, hb⟩
    exact ⟨v, rfl, hv.mono (by rw [e]; omega), (lay W).2.trans (hb.mono (by rw [e]; omega))⟩
  have hl1 : Hid ((sha 1 J).length = 32) := Lib.hid (by rw [sha_len]; rfl)
  have hl2 : Hid ((sha 2 J).length = 48) := Lib.hid (by rw [sha_len]; rfl)
  have hl3 : Hid ((sha 3 J).length = 64) := Lib.hid (by rw [sha_len]; rfl)
  have h1 := hc 1
  have h2 := hc 2
  have h3 := hc 3
  obtain ⟨S1, hS1⟩ : ∃ S, S = sha 1 J := ⟨_, rfl⟩
  obtain ⟨S2, hS2⟩ : ∃ S, S = sha 2 J := ⟨_, rfl⟩
  obtain ⟨S3, hS3⟩ : ∃ S, S = sha 3 J := ⟨_, rfl⟩
  rw [← hS1] at a1 hl1 h1
  rw [← hS2] at a2 hl2 h2
  rw [← hS3] at a3 hl3 h3
  obtain ⟨a10, a11⟩ := a1
  obtain ⟨a20, a21⟩ := a2
  obtain ⟨a30, a31⟩ := a3
  clear hJ jl hS1 hS2 hS3 hc lay
  go_enter Tryd.func37, Tryd.ntmps37
  go_wp2_with fail
  refine (h1 w ht).mono ?_; rintro e w1 ⟨v, rfl, hv, hb1⟩
  obtain ⟨b1, c1, rfl, s1⟩ := hv.sl
  have ht1 := ht.below hb1
  rw [hl1.out]
  clear hv h1
  go_wp2_with fail
  refine (h2 w1 ht1).mono ?_; rintro e w2 ⟨v, rfl, hv, hb2⟩
  obtain ⟨b2, c2, rfl, s2⟩ := hv.sl
  have ht2 := ht1.below hb2
  replace s1 := s1.below hb2
  have hB2 := hb1.trans (hb2.mono hb1.size)
  rw [hl2.out]
  clear hv h2 ht1 hb1 hb2
  go_wp2_with fail
  refine (h3 w2 ht2).mono ?_; rintro e w3 ⟨v, rfl, hv, hb3⟩
  obtain ⟨b3, c3, rfl, s3⟩ := hv.sl
  replace s1 := s1.below hb3
  replace s2 := s2.below hb3
  have hB3 := hB2.trans (hb3.mono hB2.size)
  rw [hl3.out]
  clear hv h3 ht2 hb3 hB2
  obtain ⟨d1, o1, rfl, k1⟩ := s1.cells (by rw [hl1.out]; omega)
  obtain ⟨d2, o2, rfl, k2⟩ := s2.cells (by rw [hl2.out]; omega)
  obtain ⟨d3, o3, rfl, k3⟩ := s3.cells (by rw [hl3.out]; omega)
  have q10 := k1 0 (by rw [hl1.out]; omega)
  have q11 := k1 31 (by rw [hl1.out]; omega)
  have q20 := k2 0 (by rw [hl2.out]; omega)
  have q21 := k2 47 (by rw [hl2.out]; omega)
  have q30 := k3 0 (by rw [hl3.out]; omega)
  have q31 := k3 63 (by rw [hl3.out]; omega)
  rw [Nat.add_zero, a10] at q10
  rw [Nat.add_zero, a20] at q20
  rw [Nat.add_zero, a30] at q30
  rw [a11] at q11
  rw [a21] at q21
  rw [a31] at q31
  clear k1 k2 k3 s1 s2 s3
  go_wp2_with fail
  go_ret
  exact ⟨rfl, hB3⟩

def pickI (x n : Int) : Int := if x.tmod n < 0 then x.tmod n + n else x.tmod n
theorem tmod_rng' (n z : Int) (hz : 0 < z) : -z < n.tmod z ∧ n.tmod z < z := by
  have h1 := Int.natAbs_tmod n z
  have h2 : (n.tmod z).natAbs < z.natAbs := by rw [h1]; exact Nat.mod_lt _ (by omega)
  omega
theorem pickI_rng (x n : Int) (h : 0 < n) : 0 ≤ pickI x n ∧ pickI x n < n := by
  have := tmod_rng' x n h
  unfold pickI
  split <;> omega
theorem pick_c (x n : Int) (w : World) (hx : -9223372036854775808 ≤ x ∧ x ≤ 9223372036854775807) (h : 0 < n) (hn : n ≤ 9223372036854775807) : Calls Tryd.prog 23 #[.int .i64 x, .int .i64 n] w fun e w' => e = .returned (.int .i64 (pickI x n)) ∧ w = w' := by
  have hr := tmod_rng' x n h
  have n0 : (n == 0) = false := beq_false_of_ne (by omega)
  have n1 : (n == -1) = false := beq_false_of_ne (by omega)
  obtain ⟨R, hR⟩ : ∃ R, R = x.tmod n := ⟨_, rfl⟩
  have hrem : x.tmod n = R := hR.symm
  have hne : n ≠ 0 := by omega
  rw [← hR] at hr
  by_cases q : R < 0
  · have e : Hid (pickI x n = R + n) := Lib.hid (by unfold pickI; rw [← hR, if_pos q])
    have d : decide (R < 0) = true := decide_eq_true q
    clear hR
    go_enter Tryd.func23, Tryd.ntmps23
    go_wp2_with fail
    go_ret
    exact ⟨by rw [e.out]; first | done | rfl, rfl⟩
  · have e : Hid (pickI x n = R) := Lib.hid (by unfold pickI; rw [← hR, if_neg q])
    have d : decide (R < 0) = false := decide_eq_false q
    clear hR
    go_enter Tryd.func23, Tryd.ntmps23
    go_wp2_with fail
    go_ret
    exact ⟨by rw [e.out]; first | done | rfl, rfl⟩
end Go.Proofs.YtiiedgbdooamaaaDoor
