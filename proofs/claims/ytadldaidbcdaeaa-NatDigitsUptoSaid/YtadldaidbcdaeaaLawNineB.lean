/- rsa1.Key, signetref9.Key, by their contracts. -/
import Derived.Test.YtadldaidbcdaeaaLawNineA
set_option linter.unusedVariables false
set_option linter.unusedSimpArgs false
namespace Go.Proofs.Ytadldaidbcdaeaa
open Go.RowKit Go.Sg

def keyOk (ns es : List Int) : Prop := 0 < ns.length ∧ nth ns 0 ≠ 0 ∧ bval ns % 2 = 1 ∧ 0 < es.length ∧ nth es 0 ≠ 0 ∧ 2048 ≤ bl (bval ns) ∧ bl (bval ns) ≤ 4096 ∧ bval es % 2 = 1 ∧ 3 ≤ bval es ∧ bval es ≤ 4294967295
instance (ns es : List Int) : Decidable (keyOk ns es) := by unfold keyOk; infer_instance
def keyCode (ns es : List Int) : Int := if keyOk ns es then 0 else 90
theorem keyCode_ok {ns es : List Int} (h : keyOk ns es) : keyCode ns es = 0 := if_pos h
theorem keyCode_no {ns es : List Int} (h : ¬ keyOk ns es) : keyCode ns es = 90 := if_neg h
theorem keyCode_rng (ns es : List Int) : keyCode ns es = 0 ∨ keyCode ns es = 90 := by unfold keyCode; split <;> simp

theorem bval_odd (xs : List Int) (h : 0 < xs.length) (u : U8 xs) : ((bval xs % 2 : Nat) : Int) = nth xs (xs.length - 1) % 2 := by
  obtain ⟨n, hn⟩ : ∃ n, xs.length = n + 1 := ⟨xs.length - 1, by omega⟩
  have e := bval_take_succ xs n (by omega)
  rw [← hn, List.take_length] at e
  rw [e, hn, Nat.add_sub_cancel]
  have := u n
  unfold lb
  omega

theorem canon_bytes_len {zs bs : List Int} (c : Canon zs) (uz : U32 zs) (ub : U8 bs) (h : val zs = bval bs) : zs.length ≤ (bs.length + 3) / 4 := by
  apply c.len_lt uz
  rw [h, R_pow_256]
  exact Nat.lt_of_lt_of_le (bval_lt ub) (Nat.pow_le_pow_right (by decide) (by omega))

def KeyPost (ns es : List Int) (w : World) (e : Ending) (w' : World) : Prop := e = .returned (.int .i64 (keyCode ns es)) ∧ Below w.heap.size w w'

set_option maxHeartbeats 4000000 in
theorem Key_c (a a' : Option Addr) (cap cap' : Nat) (ns es : List Int) (w : World) (hx : Sl .u8 w a cap ns) (hy : Sl .u8 w a' cap' es) (ux : U8 ns) (uy : U8 es) (hl : ns.length ≤ 140737488355328) (hl' : es.length ≤ 140737488355328) :
    Calls Try.prog 18 #[.slice a ns.length cap, .slice a' es.length cap'] w (KeyPost ns es w) := by
  have ua := ux 0
  have ub := ux (ns.length - 1)
  have uc := uy 0
  by_cases h1 : ns.length = 0
  · have hk := Lib.hid (keyCode_no (ns := ns) (es := es) fun h => by have := h.1; omega)
    have e1 : ((ns.length : Int) == 0) = true := by simp [h1]
    clear h1
    go_enter Try.func18, Try.ntmps18
    go_wp2_with fail
    go_ret
    exact ⟨by rw [hk.out]; rfl, .refl _ _⟩
  have e1 : ((ns.length : Int) == 0) = false := beq_false_of_ne (by omega)
  have p1 : 0 < ns.length := by omega
  obtain ⟨b, off, rfl, hcc⟩ := hx.cells (by omega)
  have c0 := hcc 0 (by omega)
  rw [Nat.add_zero] at c0
  have c1 := hcc (ns.length - 1) (by omega)
  have hodd := Lib.hid (bval_odd ns (by omega) ux)
  clear hcc h1
  by_cases h2 : nth ns 0 = 0
  · have hk := Lib.hid (keyCode_no (ns := ns) (es := es) fun h => h.2.1 h2)
    have e2 : (nth ns 0 == 0) = true := by simp [h2]
    clear h2
    go_enter Try.func18, Try.ntmps18
    go_wp2_with fail
    go_ret
    exact ⟨by rw [hk.out]; rfl, .refl _ _⟩
  have e2 : (nth ns 0 == 0) = false := beq_false_of_ne h2
  by_cases h3 : nth ns (ns.length - 1) % 2 = 0
  · have hk := Lib.hid (keyCode_no (ns := ns) (es := es) fun h => by have := h.2.2.1; have := hodd.out; omega)
    have e3 : (nth ns (ns.length - 1) % 2 == 0) = true := by simp [h3]
    clear h3 h2
    go_enter Try.func18, Try.ntmps18
    go_wp2_with fail
    go_ret
    exact ⟨by rw [hk.out]; rfl, .refl _ _⟩
  have e3 : (nth ns (ns.length - 1) % 2 == 0) = false := beq_false_of_ne h3
  by_cases h4 : es.length = 0
  · have hk := Lib.hid (keyCode_no (ns := ns) (es := es) fun h => by have := h.2.2.2.1; omega)
    have e4 : ((es.length : Int) == 0) = true := by simp [h4]
    clear h4 h3 h2
    go_enter Try.func18, Try.ntmps18
    go_wp2_with fail
    go_ret
    exact ⟨by rw [hk.out]; rfl, .refl _ _⟩
  have e4 : ((es.length : Int) == 0) = false := beq_false_of_ne (by omega)
  have p4 : 0 < es.length := by omega
  obtain ⟨b', off', rfl, hcc'⟩ := hy.cells (by omega)
  have c2 := hcc' 0 (by omega)
  rw [Nat.add_zero] at c2
  clear hcc' h4
  by_cases h5 : nth es 0 = 0
  · have hk := Lib.hid (keyCode_no (ns := ns) (es := es) fun h => h.2.2.2.2.1 h5)
    have e5 : (nth es 0 == 0) = true := by simp [h5]
    clear h5 h3 h2
    go_enter Try.func18, Try.ntmps18
    go_wp2_with fail
    go_ret
    exact ⟨by rw [hk.out]; rfl, .refl _ _⟩
  have e5 : (nth es 0 == 0) = false := beq_false_of_ne h5
  have H2 := Lib.hid h2
  have H5 := Lib.hid h5
  have H3 := Lib.hid h3
  clear h2 h3 h5
  go_enter Try.func18, Try.ntmps18
  go_wp2_with fail
  refine (FromBytes_c _ _ _ _ hx ux hl).mono ?_; rintro e w1 ⟨v1, rfl, ⟨z1, hn1, cz1, uz1, hv1⟩, hb1⟩
  have hz1 : z1.length ≤ 35184372088832 := by have := canon_bytes_len cz1 uz1 ux hv1; omega
  obtain ⟨a1, c1', rfl, hs1⟩ := hn1.sl
  have V1 := Lib.hid hv1
  clear hv1
  go_wp2_with fail
  refine (Bits_c _ _ _ _ hs1 uz1 (by omega)).mono ?_; rintro e w' ⟨rfl, rfl⟩
  have hy1 := hy.below (w' := w1) (hb1.mono (Nat.le_refl _))
  go_wp2_with fail
  refine (FromBytes_c _ _ _ _ hy1 uy hl').mono ?_; rintro e w2 ⟨v2, rfl, ⟨z2, hn2, cz2, uz2, hv2⟩, hb2⟩
  obtain ⟨a2, c2', rfl, hs2⟩ := hn2.sl
  have V2 := Lib.hid hv2
  have hbb := hb1.trans (hb2.mono hb1.size)
  clear hv2
  go_wp2_with fail
  refine (Uint_c _ _ _ _ hs2 uz2).mono ?_; rintro e w' ⟨rfl, rfl⟩
  obtain ⟨nb, hnb⟩ : ∃ nb, nb = bl (val z1) := ⟨_, rfl⟩
  obtain ⟨ev, hev⟩ : ∃ ev, ev = val z2 := ⟨_, rfl⟩
  rw [← hnb, ← hev]
  rw [V1.out] at hnb
  rw [V2.out] at hev
  have fin : Hid (2048 ≤ nb ∧ nb ≤ 4096 ∧ ev % 2 = 1 ∧ 3 ≤ ev ∧ ev ≤ 4294967295 ↔ keyOk ns es) := by
    refine Lib.hid ⟨fun ⟨g1, g2, g3, g4, g5⟩ => ⟨p1, H2.out, ?_, p4, H5.out, by omega, by omega, by omega, by omega, by omega⟩, fun h => ?_⟩
    · have := H3.out; have := hodd.out; omega
    · obtain ⟨_, _, _, _, _, g1, g2, g3, g4, g5⟩ := h
      rw [hnb, hev]; exact ⟨g1, g2, g3, g4, g5⟩
  have NB := Lib.hid hnb
  have EV := Lib.hid hev
  clear hnb hev
  by_cases q1 : nb < 2048
  · have hk := Lib.hid (keyCode_no (ns := ns) (es := es) fun h => by have := fin.out.2 h; omega)
    go_wp2_with fail
    go_ret
    exact ⟨by rw [hk.out]; rfl, hbb⟩
  by_cases q2 : 4096 < nb
  · have hk := Lib.hid (keyCode_no (ns := ns) (es := es) fun h => by have := fin.out.2 h; omega)
    go_wp2_with fail
    go_ret
    exact ⟨by rw [hk.out]; rfl, hbb⟩
  by_cases q3 : ev < R ^ 2
  · have hV : uintV ev = (ev : Int) := if_pos q3
    have hB : uintB ev = true := decide_eq_true q3
    rw [hV, hB]
    have q3' : ev < 18446744073709551616 := q3
    clear hV hB q3
    by_cases q4 : ev % 2 = 0
    · have hk := Lib.hid (keyCode_no (ns := ns) (es := es) fun h => by have := fin.out.2 h; omega)
      have e6 : ((ev : Int) % 2 == 0) = true := by simp; omega
      clear q4
      go_wp2_with fail
      go_ret
      exact ⟨by rw [hk.out]; rfl, hbb⟩
    have e6 : ((ev : Int) % 2 == 0) = false := beq_false_of_ne (by omega)
    by_cases q5 : ev < 3
    · have hk := Lib.hid (keyCode_no (ns := ns) (es := es) fun h => by have := fin.out.2 h; omega)
      clear q4
      go_wp2_with fail
      go_ret
      exact ⟨by rw [hk.out]; rfl, hbb⟩
    by_cases q6 : 4294967295 < ev
    · have hk := Lib.hid (keyCode_no (ns := ns) (es := es) fun h => by have := fin.out.2 h; omega)
      clear q4
      go_wp2_with fail
      go_ret
      exact ⟨by rw [hk.out]; rfl, hbb⟩
    have hk := Lib.hid (keyCode_ok (ns := ns) (es := es) (fin.out.1 (by omega)))
    clear q4
    go_wp2_with fail
    go_ret
    exact ⟨by rw [hk.out]; rfl, hbb⟩
  · have hV : uintV ev = 0 := if_neg q3
    have hB : uintB ev = false := decide_eq_false q3
    have q3' : ¬ ev < 18446744073709551616 := q3
    have hk := Lib.hid (keyCode_no (ns := ns) (es := es) fun h => by have := fin.out.2 h; omega)
    rw [hV, hB]
    clear hV hB q3 q3'
    go_wp2_with fail
    go_ret
    exact ⟨by rw [hk.out]; rfl, hbb⟩

theorem bitB_zero (n : Nat) : bitB n 0 = decide (n % 2 = 1) := by
  unfold bitB
  apply decide_eq_decide.2
  simp
theorem sl_one (w : World) (e : TypeId) (x : Int) (n : Nat) (hn : n = w.heap.size) : Sl .u32 (w.alloc (.cells #[.int .u32 x] e)) (some ⟨n, 0, none⟩) 1 [x] :=
  ⟨by simp, by omega, cells_one _ _ _ _ _ hn⟩

set_option maxHeartbeats 4000000 in
theorem rKey_c (a a' : Option Addr) (cap cap' : Nat) (ns es : List Int) (w : World) (hx : Sl .u8 w a cap ns) (hy : Sl .u8 w a' cap' es) (ux : U8 ns) (uy : U8 es) (hl : ns.length ≤ 140737488355328) (hl' : es.length ≤ 140737488355328) :
    Calls Try.prog 19 #[.slice a ns.length cap, .slice a' es.length cap'] w (KeyPost ns es w) := by
  have ua := ux 0
  have uc := uy 0
  by_cases h1 : ns.length = 0
  · have hk := Lib.hid (keyCode_no (ns := ns) (es := es) fun h => by have := h.1; omega)
    have e1 : ((ns.length : Int) == 0) = true := by simp [h1]
    clear h1
    go_enter Try.func19, Try.ntmps19
    go_wp2_with fail
    go_ret
    exact ⟨by rw [hk.out]; rfl, .refl _ _⟩
  have e1 : ((ns.length : Int) == 0) = false := beq_false_of_ne (by omega)
  have p1 : 0 < ns.length := by omega
  obtain ⟨b, off, rfl, hcc⟩ := hx.cells (by omega)
  have c0 := hcc 0 (by omega)
  rw [Nat.add_zero] at c0
  clear hcc h1
  by_cases h4 : es.length = 0
  · have hk := Lib.hid (keyCode_no (ns := ns) (es := es) fun h => by have := h.2.2.2.1; omega)
    have e4 : ((es.length : Int) == 0) = true := by simp [h4]
    clear h4
    go_enter Try.func19, Try.ntmps19
    go_wp2_with fail
    go_ret
    exact ⟨by rw [hk.out]; rfl, .refl _ _⟩
  have e4 : ((es.length : Int) == 0) = false := beq_false_of_ne (by omega)
  have p4 : 0 < es.length := by omega
  obtain ⟨b', off', rfl, hcc'⟩ := hy.cells (by omega)
  have c2 := hcc' 0 (by omega)
  rw [Nat.add_zero] at c2
  clear hcc' h4
  by_cases h2 : nth ns 0 = 0
  · have hk := Lib.hid (keyCode_no (ns := ns) (es := es) fun h => h.2.1 h2)
    have e2 : (nth ns 0 == 0) = true := by simp [h2]
    clear h2
    go_enter Try.func19, Try.ntmps19
    go_wp2_with fail
    go_ret
    exact ⟨by rw [hk.out]; rfl, .refl _ _⟩
  have e2 : (nth ns 0 == 0) = false := beq_false_of_ne h2
  by_cases h5 : nth es 0 = 0
  · have hk := Lib.hid (keyCode_no (ns := ns) (es := es) fun h => h.2.2.2.2.1 h5)
    have e5 : (nth es 0 == 0) = true := by simp [h5]
    clear h5 h2
    go_enter Try.func19, Try.ntmps19
    go_wp2_with fail
    go_ret
    exact ⟨by rw [hk.out]; rfl, .refl _ _⟩
  have e5 : (nth es 0 == 0) = false := beq_false_of_ne h5
  have H2 := Lib.hid h2
  have H5 := Lib.hid h5
  clear h2 h5
  go_enter Try.func19, Try.ntmps19
  go_wp2_with fail
  refine (rFromBytes_c _ _ _ _ hx ux hl).mono ?_; rintro e w1 ⟨v1, rfl, ⟨z1, hn1, cz1, uz1, hv1⟩, hb1⟩
  have hz1 : z1.length ≤ 35184372088832 := by have := canon_bytes_len cz1 uz1 ux hv1; omega
  obtain ⟨a1, c1', rfl, hs1⟩ := hn1.sl
  have V1 := Lib.hid hv1
  clear hv1
  have hy1 := hy.below (w' := w1) (hb1.mono (Nat.le_refl _))
  go_wp2_with fail
  refine (rFromBytes_c _ _ _ _ hy1 uy hl').mono ?_; rintro e w2 ⟨v2, rfl, ⟨z2, hn2, cz2, uz2, hv2⟩, hb2⟩
  have hz2 : z2.length ≤ 35184372088832 := by have := canon_bytes_len cz2 uz2 uy hv2; omega
  obtain ⟨a2, c2', rfl, hs2⟩ := hn2.sl
  have V2 := Lib.hid hv2
  have hbb := hb1.trans (hb2.mono hb1.size)
  have hs1 := hs1.below hb2
  clear hv2 hb1 hb2
  go_wp2_with fail
  refine (rBits_c _ _ _ _ hs1 uz1 hz1).mono ?_; rintro e w3 ⟨rfl, hb3⟩
  have hbb := hbb.trans (hb3.mono hbb.size)
  have hs1 := hs1.below hb3
  have hs2 := hs2.below hb3
  clear hb3
  go_wp2_with fail
  refine (rBit_c _ _ _ 0 _ hs1 uz1 (by omega)).mono ?_; rintro e w4 ⟨rfl, hd4⟩
  have hs2 := hs2.below hd4.below
  go_wp2_with fail
  refine (rBit_c _ _ _ 0 _ hs2 uz2 (by omega)).mono ?_; rintro e w5 ⟨rfl, hd5⟩
  have hbb := (hbb.trans hd4.belowB).trans hd5.belowB
  have hs2'' := (hs2.below hd5.below).below (w' := w5.alloc (.cells #[.int .u32 3] 52)) ((Below.refl _ _).alloc (Nat.le_refl _) _)
  have hone := sl_one w5 52 3 _ rfl
  have hbb2 := hbb.alloc hbb.size (.cells #[.int .u32 3] 52)
  clear hs1 hs2 hbb hd4 hd5
  have u3 : U32 [3] := .one (by omega) (by omega)
  go_wp2_with fail
  refine (rCmp_c _ _ _ _ _ _ _ hs2'' hone uz2 u3).mono ?_; rintro e w' ⟨rfl, rfl⟩
  have hv3 : val [3] = 3 := rfl
  obtain ⟨nb, hnb⟩ : ∃ nb, nb = bl (val z1) := ⟨_, rfl⟩
  obtain ⟨m, hm⟩ : ∃ m, m = val z1 := ⟨_, rfl⟩
  obtain ⟨ev, hev⟩ : ∃ ev, ev = val z2 := ⟨_, rfl⟩
  rw [← hnb, ← hev, ← hm, hv3, bitB_zero, bitB_zero]
  rw [V1.out] at hnb hm
  have HE2 := Lib.hid hev
  rw [V2.out] at hev
  have fin : Hid (2048 ≤ nb ∧ nb ≤ 4096 ∧ m % 2 = 1 ∧ ev % 2 = 1 ∧ 3 ≤ ev ∧ ev ≤ 4294967295 ↔ keyOk ns es) := by
    rw [hnb, hm, hev]
    exact Lib.hid ⟨fun ⟨g1, g2, g0, g3, g4, g5⟩ => ⟨p1, H2.out, g0, p4, H5.out, g1, g2, g3, g4, g5⟩, fun h => by
      obtain ⟨_, _, g0, _, _, g1, g2, g3, g4, g5⟩ := h
      exact ⟨g1, g2, g0, g3, g4, g5⟩⟩
  have NB := Lib.hid hnb
  have HM := Lib.hid hm
  clear hnb hev hm hv3
  by_cases q1 : nb < 2048
  · have hk := Lib.hid (keyCode_no (ns := ns) (es := es) fun h => by have := fin.out.2 h; omega)
    go_wp2_with fail
    go_ret
    exact ⟨by rw [hk.out]; rfl, hbb2⟩
  by_cases q2 : 4096 < nb
  · have hk := Lib.hid (keyCode_no (ns := ns) (es := es) fun h => by have := fin.out.2 h; omega)
    go_wp2_with fail
    go_ret
    exact ⟨by rw [hk.out]; rfl, hbb2⟩
  by_cases q0 : m % 2 = 1
  · rw [decide_eq_true q0]
    by_cases q3 : ev % 2 = 1
    · rw [decide_eq_true q3]
      by_cases q4 : ev < 3
      · have hk := Lib.hid (keyCode_no (ns := ns) (es := es) fun h => by have := fin.out.2 h; omega)
        rw [cmpI_lt q4]
        clear q0 q3
        go_wp2_with fail
        go_ret
        exact ⟨by rw [hk.out]; rfl, hbb2⟩
      · have hcr := cmpI_rng ev 3
        have hcg : 0 ≤ cmpI ev 3 := by unfold cmpI; rw [if_neg q4]; split <;> omega
        have hcm : ¬ cmpI ev 3 < 0 := by omega
        generalize cmpI ev 3 = cc at *
        have Q0 := Lib.hid q0
        have Q3 := Lib.hid q3
        clear q0 q3
        go_wp2_with fail
        refine (rBits_c _ _ _ _ hs2'' uz2 hz2).mono ?_; rintro e w6 ⟨rfl, hb6⟩
        rw [← HE2.out]
        have hbb := hbb2.trans (hb6.mono hbb2.size)
        by_cases q5 : 32 < bl ev
        · have hk := Lib.hid (keyCode_no (ns := ns) (es := es) fun h => by
            have := fin.out.2 h
            have : bl ev ≤ 32 := (bl_le_iff _ _).2 (by omega)
            omega)
          go_wp2_with fail
          go_ret
          exact ⟨by rw [hk.out]; rfl, hbb⟩
        · have hk := Lib.hid (keyCode_ok (ns := ns) (es := es) (fin.out.1 (by
            have := (bl_le_iff ev 32).1 (by omega)
            have := Q0.out
            have := Q3.out
            omega)))
          go_wp2_with fail
          go_ret
          exact ⟨by rw [hk.out]; rfl, hbb⟩
    · have hk := Lib.hid (keyCode_no (ns := ns) (es := es) fun h => by have := fin.out.2 h; omega)
      rw [decide_eq_false q3]
      clear q0 q3
      go_wp2_with fail
      go_ret
      exact ⟨by rw [hk.out]; rfl, hbb2⟩
  · have hk := Lib.hid (keyCode_no (ns := ns) (es := es) fun h => by have := fin.out.2 h; omega)
    rw [decide_eq_false q0]
    clear q0
    go_wp2_with fail
    go_ret
    exact ⟨by rw [hk.out]; rfl, hbb2⟩
end Go.Proofs.Ytadldaidbcdaeaa
