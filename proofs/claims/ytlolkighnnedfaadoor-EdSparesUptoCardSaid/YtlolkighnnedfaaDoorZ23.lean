import Derived.Test.YtlolkighnnedfaaDoorZ22
import Derived.Test.YtlolkighnnedfaaDoorZ15
/- package ed: times by its contract. (Printed by gen_edpc.py.) -/
set_option linter.unusedVariables false
set_option linter.unusedSimpArgs false
namespace Go.Proofs.YtlolkighnnedfaaDoor
open Go.RowKit Go.Sg
theorem NumAt.bits {w : World} {v : Value} {n : Nat} (h : NumAt w v n) : bl n ≤ 562949953421280 := by
  obtain ⟨a, c, zs, rfl, s, u, rfl, hl⟩ := h
  have h1 := (bl_le_iff (val zs) (32 * zs.length)).2 (by rw [← Rpow_two]; exact val_lt u)
  omega
def TimesPost (Q : Pt) (W : World) (e : Ending) (w' : World) : Prop := ∃ v s, e = .returned v ∧ SpRes W.heap.size w' v s ∧ s.is Q ∧ Below W.heap.size W w'
def TimesRel (w : World) (P : Pt) (k B g2 g4 g5 : Nat) (c2 : List Value) (T : TypeId) (z4 : List Value) (t : Value) (wr : World) : Prop := ∃ (i : Nat) (s : Sp) (x y z tt : Value), i ≤ B ∧ t = .int .i64 ((i : Int) - 1) ∧
  Rw wr g5 T [x, y, z, tt] ∧ NatRes (g4 + 1) wr x s.x.val ∧ NatRes (g4 + 1) wr y s.y.val ∧ NatRes (g4 + 1) wr z s.z.val ∧ NatRes (g4 + 1) wr tt s.t.val ∧ s.is (eMul (k / 2 ^ i) P) ∧ Rw wr g2 T c2 ∧ Rw wr g4 T z4 ∧ Below w.heap.size w wr
theorem eMul_bit0 {P : Pt} (hP : OnC P) (k j : Nat) (hb : k / 2 ^ j % 2 ≠ 1) : eAdd (eMul (k / 2 ^ (j + 1)) P) (eMul (k / 2 ^ (j + 1)) P) = eMul (k / 2 ^ j) P := by
  rw [eMul_twice hP, Nat.pow_succ, ← Nat.div_div_eq_div_mul]
  congr 1
  omega
theorem eMul_bit1 {P : Pt} (hP : OnC P) (k j : Nat) (hb : k / 2 ^ j % 2 = 1) : eAdd (eAdd (eMul (k / 2 ^ (j + 1)) P) (eMul (k / 2 ^ (j + 1)) P)) P = eMul (k / 2 ^ j) P := by
  rw [eMul_twice hP]
  show eMul (2 * (k / 2 ^ (j + 1)) + 1) P = _
  rw [Nat.pow_succ, ← Nat.div_div_eq_div_mul]
  congr 1
  omega

set_option maxHeartbeats 4000000 in
set_option maxRecDepth 20000 in
theorem times_c {va vk : Value} {a : Sp} {P : Pt} {k : Nat} {w : World} (ha : SpAt w va a) (hi : a.is P) (hc : OnC P) (nk : NumAt w vk k) (tP : TabAt w 0 limbP) (tD : TabAt w 3 limbD) :
    Calls Tryd.prog 58 #[va, vk] w (TimesPost (eMul k P) w) := by
  obtain ⟨vax, vay, vaz, vat, rfl, cax, cay, caz, cat⟩ := ha
  have HI := Lib.hid hi
  have HC := Lib.hid hc
  obtain ⟨B, hBB⟩ : ∃ B, B = bl k := ⟨_, rfl⟩
  have hBl : B ≤ 562949953421280 := by rw [hBB]; exact nk.bits
  have HBB := Lib.hid hBB
  clear hi hc hBB
  go_enter Tryd.func58, Tryd.ntmps58
  have hB := Below.refl w.heap.size w
  go_wp2_with (refine wpList_box_agg rfl 67 _ rfl [vax, vay, vaz, vat] rfl ?_)
  intro w1 hk2 hb
  have hz_ := hB.size
  replace hB := hB.trans (hb.mono hB.size)
  clear hb
  obtain ⟨g2, hg_⟩ : ∃ g, g = w.heap.size := ⟨_, rfl⟩
  rw [← hg_] at hk2 ⊢
  have HG2 : Hid (w.heap.size ≤ g2) := Lib.hid (by rw [hg_]; exact hz_)
  clear hg_ hz_
  go_wp2_with (refine wpList_alloc_agg rfl 67 rfl [(.slice none 0 0), (.slice none 0 0), (.slice none 0 0), (.slice none 0 0)] 4 (by kernel_rfl) ?_)
  intro w2 hk4 hb
  have hz_ := hB.size
  have lt2_ := hk2.lt
  replace hB := hB.trans (hb.mono hB.size)
  replace hk2 := hk2.keep hb
  clear hb
  obtain ⟨g4, hg_⟩ : ∃ g, g = w1.heap.size := ⟨_, rfl⟩
  rw [← hg_] at hk4 ⊢
  have HG4 : Hid (w.heap.size ≤ g4) := Lib.hid (by rw [hg_]; exact hz_)
  have NE2_4 : Hid (g2 ≠ g4) := Lib.hid (by rw [hg_]; exact Nat.ne_of_lt lt2_)
  clear hg_ hz_ lt2_
  go_wp2_with (refine wpList_lit rfl 27 36 _ rfl Tryd.underlying27 info32e 1 rfl ?_)
  intro w3 hl hb
  have r7 := NatRes.lit (c := 1) hl (Nat.succ_le_of_lt hk4.lt) (by omega) (by omega)
  have c7 := (NatRes.lit (c := 1) hl (Nat.zero_le _) (by omega) (by omega)).can (k := 1) (by exact ⟨by decide⟩) (by omega)
  replace c7 : CanAt w3 _ (1 : Fp).val := c7
  replace r7 : NatRes _ w3 _ (1 : Fp).val := r7
  obtain ⟨v7, hv7⟩ : ∃ v, v = Value.slice (some ⟨w2.heap.size, 0, none⟩) 1 1 := ⟨_, rfl⟩
  rw [← hv7] at c7 r7 ⊢
  clear hv7 hl
  replace hB := hB.trans (hb.mono hB.size)
  replace hk2 := hk2.keep hb
  replace hk4 := hk4.keep hb
  clear hb
  go_wp2_with (refine wpList_lit rfl 27 36 _ rfl Tryd.underlying27 info32e 1 rfl ?_)
  intro w4 hl hb
  have r8 := NatRes.lit (c := 1) hl (Nat.succ_le_of_lt hk4.lt) (by omega) (by omega)
  have c8 := (NatRes.lit (c := 1) hl (Nat.zero_le _) (by omega) (by omega)).can (k := 1) (by exact ⟨by decide⟩) (by omega)
  replace c8 : CanAt w4 _ (1 : Fp).val := c8
  replace r8 : NatRes _ w4 _ (1 : Fp).val := r8
  obtain ⟨v8, hv8⟩ : ∃ v, v = Value.slice (some ⟨w3.heap.size, 0, none⟩) 1 1 := ⟨_, rfl⟩
  rw [← hv8] at c8 r8 ⊢
  clear hv8 hl
  replace hB := hB.trans (hb.mono hB.size)
  replace hk2 := hk2.keep hb
  replace hk4 := hk4.keep hb
  replace c7 := c7.below hb
  replace r7 := r7.below hb
  clear hb
  obtain ⟨a7_, n7_, p7_, rfl⟩ := c7.sliced
  obtain ⟨a8_, n8_, p8_, rfl⟩ := c8.sliced
  clear c7
  clear c8
  have hl4_ := hk4.lt
  have hB5 := Below.refl w4.heap.size w4
  go_wp2_with (refine wpList_alloc_agg rfl 67 rfl [(.slice none 0 0), (.slice none 0 0), (.slice none 0 0), (.slice none 0 0)] 4 (by kernel_rfl) ?_)
  intro w5 hk5 hb
  have hz_ := hB.size
  have lt2_ := hk2.lt
  have lt4_ := hk4.lt
  replace hB := hB.trans (hb.mono hB.size)
  replace hk2 := hk2.keep hb
  replace hk4 := hk4.keep hb
  replace hB5 := hB5.trans (hb.mono hB5.size)
  clear hb
  obtain ⟨g5, hg_⟩ : ∃ g, g = w4.heap.size := ⟨_, rfl⟩
  rw [← hg_] at hk5 ⊢
  have HG5 : Hid (w.heap.size ≤ g5) := Lib.hid (by rw [hg_]; exact hz_)
  have NE2_5 : Hid (g2 ≠ g5) := Lib.hid (by rw [hg_]; exact Nat.ne_of_lt lt2_)
  have NE4_5 : Hid (g4 ≠ g5) := Lib.hid (by rw [hg_]; exact Nat.ne_of_lt lt4_)
  have HH5 : Hid (w4.heap.size ≤ g5 ∧ g4 ≤ g5 ∧ w.heap.size ≤ g4) := Lib.hid ⟨by rw [hg_]; exact Nat.le_refl _, by rw [hg_]; exact Nat.le_of_lt hl4_, HG4.out⟩
  clear hg_ hz_ lt2_ lt4_
  clear hl4_
  go_wp2_with (refine wpList_store_agg rfl 67 _ _ rfl g5 67 [(.slice none 0 0), (.slice none 0 0), (.slice none 0 0), (.slice none 0 0)] [(.slice none 0 0), (.slice a7_ n7_ p7_), (.slice a8_ n8_ p8_), (.slice none 0 0)] rfl rfl hk5 size_spot (by intro v_ hv_; simp only [List.mem_cons, List.not_mem_nil, or_false] at hv_; rcases hv_ with rfl | rfl | rfl | rfl <;> first | rfl | exact (r7.below hB5).fp.one_cell | exact (r8.below hB5).fp.one_cell) rfl ?_)
  intro w6 hn hg
  replace hB := hB.grown hg hB.size (by intro k_ hk_; cases hk_; exact HG5.out)
  replace hk2 := hk2.grown hg (fun e_ => NE2_5.out (Option.some.inj e_))
  replace hk4 := hk4.grown hg (fun e_ => NE4_5.out (Option.some.inj e_))
  replace hB5 := hB5.grown hg hB5.size (by intro k_ hk_; cases hk_; exact HH5.out.1)
  replace hk5 := hn
  clear hn hg
  replace r7 := r7.below hB5
  replace r8 := r8.below hB5
  clear hB5
  have bc := bits_v (nk.below hB)
  rw [← HBB.out] at bc
  go_wp2_with fail
  refine bc.mono ?_; rintro e_ w' ⟨rfl, rfl⟩
  clear bc
  have hw1 : IntKind.i64.wrap ((B : Int) - 1) = (B : Int) - 1 := by rw [IntKind.wrap_i64]; omega
  have st : TimesRel w P k B g2 g4 g5 [vax, vay, vaz, vat] 67 [.slice none 0 0, .slice none 0 0, .slice none 0 0, .slice none 0 0] (.int .i64 ((B : Int) - 1)) w6 := ⟨B, Sp.none, _, _, _, _, Nat.le_refl _, rfl, hk5, NatRes.nil0 _ _, r7, r8, NatRes.nil0 _ _, by rw [HBB.out, Nat.div_eq_of_lt (lt_bl k)]; exact Sp.none_is, hk2, hk4, hB⟩
  clear hk2 hk4 hk5 r7 r8 hB
  go_wp2_with fail
  go_loopw [6] (fun t wr => TimesRel w P k B g2 g4 g5 [vax, vay, vaz, vat] 67 [.slice none 0 0, .slice none 0 0, .slice none 0 0, .slice none 0 0] t wr) (fun t _ => (intOf t + 1).toNat)
  case atStart => exact st
  case round =>
    clear st
    obtain ⟨i, s, x, y, z, tt, hi, rfl, hk5, rx, ry, rz, rt, his, hk2, hk4, hB⟩ := hrel
    have HIS := Lib.hid his
    clear his
    cases i with
    | zero =>
      rw [Nat.pow_zero, Nat.div_one] at HIS
      rw [show ((0 : Nat) : Int) - 1 = -1 from rfl]
      obtain ⟨ax_, nx_, px_, rfl⟩ := rx.fp.sliced
      obtain ⟨ay_, ny_, py_, rfl⟩ := ry.fp.sliced
      obtain ⟨az_, nz_, pz_, rfl⟩ := rz.fp.sliced
      obtain ⟨at_, nt_, pt_, rfl⟩ := rt.fp.sliced
      go_wp2_with (first | refine wpList_load_agg rfl 67 _ rfl g5 rfl _ [(.slice ax_ nx_ px_), (.slice ay_ ny_ py_), (.slice az_ nz_ pz_), (.slice at_ nt_ pt_)] _ hk5 Tryd.underlying67 rfl size_spot ?_ | refine wpList_store_agg rfl 67 _ _ rfl g4 67 [(.slice none 0 0), (.slice none 0 0), (.slice none 0 0), (.slice none 0 0)] [(.slice ax_ nx_ px_), (.slice ay_ ny_ py_), (.slice az_ nz_ pz_), (.slice at_ nt_ pt_)] rfl rfl hk4 size_spot (by intro v_ hv_; simp only [List.mem_cons, List.not_mem_nil, or_false] at hv_; rcases hv_ with rfl | rfl | rfl | rfl <;> first | rfl | exact rx.fp.one_cell | exact ry.fp.one_cell | exact rz.fp.one_cell | exact rt.fp.one_cell) rfl ?_)
      intro w7 hn hg
      replace hk5 := hk5.grown hg (fun e_ => NE4_5.out (Option.some.inj e_).symm)
      replace hk2 := hk2.grown hg (fun e_ => NE2_4.out (Option.some.inj e_))
      replace hk4 := hn
      replace rx := rx.past hg
      replace ry := ry.past hg
      replace rz := rz.past hg
      replace rt := rt.past hg
      replace hB := hB.grown hg hB.size (by intro k_ hk_; cases hk_; exact HG4.out)
      clear hn hg
      go_wp2_with fail
      refine bodyPost_ret (results_agg rfl rfl hk4 Tryd.underlying67 rfl size_spot) rfl ?_
      exact ⟨_, s, rfl, ⟨_, _, _, _, rfl, rx.mono (Nat.le_succ_of_le HG4.out), ry.mono (Nat.le_succ_of_le HG4.out), rz.mono (Nat.le_succ_of_le HG4.out), rt.mono (Nat.le_succ_of_le HG4.out)⟩, HIS.out, hB⟩
    | succ j =>
      rw [show ((j + 1 : Nat) : Int) - 1 = (j : Int) by omega]
      have hd0 : decide ((0 : Int) ≤ (j : Int)) = true := decide_eq_true (by omega)
      have hw2 : IntKind.i64.wrap ((j : Int) - 1) = (j : Int) - 1 := by rw [IntKind.wrap_i64]; omega
      have cx := rx.fp
      have cy := ry.fp
      have cz := rz.fp
      have ct := rt.fp
      have hoc : OnC (eMul (k / 2 ^ (j + 1)) P) := eMul_on HC.out _
      have h2s := Sp.twice_is HIS.out hoc
      have H2 := Lib.hid h2s
      have HOC2 := Lib.hid (eAdd_on hoc hoc)
      clear hoc h2s rx ry rz rt
      go_wp2_with (refine wpList_load_agg rfl 67 _ rfl g5 rfl _ [x, y, z, tt] _ hk5 Tryd.underlying67 rfl size_spot ?_)
      refine (twice_c ⟨_, _, _, _, rfl, cx, cy, cz, ct⟩ (tP.below hB)).mono ?_; rintro e_ w21 ⟨v18, rfl, hn, hb⟩
      obtain ⟨v18x, v18y, v18z, v18t, rfl, r18x, r18y, r18z, r18t⟩ := hn
      replace r18x := r18x.mono (Nat.succ_le_of_lt hk5.lt)
      replace r18y := r18y.mono (Nat.succ_le_of_lt hk5.lt)
      replace r18z := r18z.mono (Nat.succ_le_of_lt hk5.lt)
      replace r18t := r18t.mono (Nat.succ_le_of_lt hk5.lt)
      replace hk5 := hk5.keep hb
      replace hk2 := hk2.keep hb
      replace hk4 := hk4.keep hb
      replace cx := cx.below hb
      replace cy := cy.below hb
      replace cz := cz.below hb
      replace ct := ct.below hb
      replace hB := hB.trans (hb.mono hB.size)
      clear hb
      clear cx
      clear cy
      clear cz
      clear ct
      go_wp2_with (refine wpList_store_agg rfl 67 _ _ rfl g5 67 [x, y, z, tt] [v18x, v18y, v18z, v18t] rfl rfl hk5 size_spot (by intro v_ hv_; simp only [List.mem_cons, List.not_mem_nil, or_false] at hv_; rcases hv_ with rfl | rfl | rfl | rfl <;> first | rfl | exact r18x.fp.one_cell | exact r18y.fp.one_cell | exact r18z.fp.one_cell | exact r18t.fp.one_cell) rfl ?_)
      intro w22 hn hg
      replace hk5 := hn
      replace hk2 := hk2.grown hg (fun e_ => NE2_5.out (Option.some.inj e_))
      replace hk4 := hk4.grown hg (fun e_ => NE4_5.out (Option.some.inj e_))
      replace hB := hB.grown hg hB.size (by intro k_ hk_; cases hk_; exact HG5.out)
      replace r18x := r18x.past hg
      replace r18y := r18y.past hg
      replace r18z := r18z.past hg
      replace r18t := r18t.past hg
      clear hn hg
      have bc := bit_v (nk.below hB) j (by omega)
      go_wp2_with fail
      refine bc.mono ?_; rintro e_ w30 ⟨rfl, hd_⟩
      have hb := hd_.b
      clear bc hd_
      replace hk5 := hk5.keep hb
      replace hk2 := hk2.keep hb
      replace hk4 := hk4.keep hb
      replace hB := hB.trans (hb.mono hB.size)
      replace r18x := r18x.below hb
      replace r18y := r18y.below hb
      replace r18z := r18z.below hb
      replace r18t := r18t.below hb
      clear hb
      by_cases hbit : k / 2 ^ j % 2 = 1
      · have hdb : decide (k / 2 ^ j % 2 = 1) = true := decide_eq_true hbit
        rw [hdb]
        have HE := Lib.hid (eMul_bit1 HC.out k j hbit)
        clear hbit hdb
        have dx := r18x.fp
        have dy := r18y.fp
        have dz := r18z.fp
        have dt := r18t.fp
        clear r18x
        clear r18y
        clear r18z
        clear r18t
        go_wp2_with (first | refine wpList_load_agg rfl 67 _ rfl g5 rfl _ [v18x, v18y, v18z, v18t] _ hk5 Tryd.underlying67 rfl size_spot ?_ | refine wpList_load_agg rfl 67 _ rfl g2 rfl _ [vax, vay, vaz, vat] _ hk2 Tryd.underlying67 rfl size_spot ?_)
        refine (plus_c ⟨_, _, _, _, rfl, dx, dy, dz, dt⟩ ⟨_, _, _, _, rfl, cax.below hB, cay.below hB, caz.below hB, cat.below hB⟩ (tP.below hB) (tD.below hB)).mono ?_; rintro e_ w31 ⟨v24, rfl, hn, hb⟩
        obtain ⟨v24x, v24y, v24z, v24t, rfl, r24x, r24y, r24z, r24t⟩ := hn
        replace r24x := r24x.mono (Nat.succ_le_of_lt hk5.lt)
        replace r24y := r24y.mono (Nat.succ_le_of_lt hk5.lt)
        replace r24z := r24z.mono (Nat.succ_le_of_lt hk5.lt)
        replace r24t := r24t.mono (Nat.succ_le_of_lt hk5.lt)
        replace hk5 := hk5.keep hb
        replace hk2 := hk2.keep hb
        replace hk4 := hk4.keep hb
        replace hB := hB.trans (hb.mono hB.size)
        replace dx := dx.below hb
        replace dy := dy.below hb
        replace dz := dz.below hb
        replace dt := dt.below hb
        clear hb
        clear dx
        clear dy
        clear dz
        clear dt
        go_wp2_with (refine wpList_store_agg rfl 67 _ _ rfl g5 67 [v18x, v18y, v18z, v18t] [v24x, v24y, v24z, v24t] rfl rfl hk5 size_spot (by intro v_ hv_; simp only [List.mem_cons, List.not_mem_nil, or_false] at hv_; rcases hv_ with rfl | rfl | rfl | rfl <;> first | rfl | exact r24x.fp.one_cell | exact r24y.fp.one_cell | exact r24z.fp.one_cell | exact r24t.fp.one_cell) rfl ?_)
        intro w32 hn hg
        replace hk5 := hn
        replace hk2 := hk2.grown hg (fun e_ => NE2_5.out (Option.some.inj e_))
        replace hk4 := hk4.grown hg (fun e_ => NE4_5.out (Option.some.inj e_))
        replace hB := hB.grown hg hB.size (by intro k_ hk_; cases hk_; exact HG5.out)
        replace r24x := r24x.past hg
        replace r24y := r24y.past hg
        replace r24z := r24z.past hg
        replace r24t := r24t.past hg
        clear hn hg
        go_wp2_with fail
        go_roundw
        case rel => exact ⟨j, s.twice.plus a, _, _, _, _, by omega, rfl, hk5, r24x.mono (Nat.succ_le_succ HH5.out.2.1), r24y.mono (Nat.succ_le_succ HH5.out.2.1), r24z.mono (Nat.succ_le_succ HH5.out.2.1), r24t.mono (Nat.succ_le_succ HH5.out.2.1), by rw [← HE.out]; exact Sp.plus_is H2.out HI.out HOC2.out HC.out, hk2, hk4, hB⟩
        case measure => simp [intOf]
      · have hdb : decide (k / 2 ^ j % 2 = 1) = false := decide_eq_false hbit
        rw [hdb]
        have HE := Lib.hid (eMul_bit0 HC.out k j hbit)
        clear hbit hdb
        go_wp2_with fail
        go_roundw
        case rel => exact ⟨j, s.twice, _, _, _, _, by omega, rfl, hk5, r18x.mono (Nat.succ_le_succ HH5.out.2.1), r18y.mono (Nat.succ_le_succ HH5.out.2.1), r18z.mono (Nat.succ_le_succ HH5.out.2.1), r18t.mono (Nat.succ_le_succ HH5.out.2.1), by rw [← HE.out]; exact H2.out, hk2, hk4, hB⟩
        case measure => simp [intOf]
end Go.Proofs.YtlolkighnnedfaaDoor
/- package ed: on, by its contract. (Printed by gen_edpd.py.) -/
set_option linter.unusedVariables false
set_option linter.unusedSimpArgs false
namespace Go.Proofs.YtlolkighnnedfaaDoor
open Go.RowKit Go.Sg
theorem cmpI_ge_ {a b : Nat} (h : ¬ a < b) : 0 ≤ cmpI a b := by
  rcases Nat.lt_or_ge b a with k | k
  · rw [cmpI_gt k]; omega
  · rw [cmpI_eq (by omega)]; omega
theorem cmpI_ne_ {a b : Nat} (h : a ≠ b) : cmpI a b ≠ 0 := by
  rcases Nat.lt_or_ge a b with k | k
  · rw [cmpI_lt k]; omega
  · rw [cmpI_gt (by omega)]; omega

set_option maxHeartbeats 4000000 in
set_option maxRecDepth 20000 in
theorem on_c {va : Value} {X Y : Nat} {inf : Bool} {w : World} (ha : PtIn w va X Y inf) (tP : TabAt w 0 limbP) (tD : TabAt w 3 limbD) :
    Calls Tryd.prog 54 #[va] w (fun e w' => e = .returned (.bool (onB X Y inf)) ∧ Below w.heap.size w w') := by
  obtain ⟨vx, vy, rfl, nx, ny⟩ := ha
  cases hinf : inf with
  | true =>
    have HE := Lib.hid (onB_inf X Y)
    clear hinf
    go_enter Tryd.func54, Tryd.ntmps54
    have hB := Below.refl w.heap.size w
    go_wp2_with (refine wpList_box_agg rfl 29 _ rfl [vx, vy, .bool true] rfl ?_)
    intro w1 hk1 hb
    have hz_ := hB.size
    replace hB := hB.trans (hb.mono hB.size)
    clear hb
    obtain ⟨g1, hg_⟩ : ∃ g, g = w.heap.size := ⟨_, rfl⟩
    rw [← hg_] at hk1 ⊢
    have HG1 : Hid (w.heap.size ≤ g1) := Lib.hid (by rw [hg_]; exact hz_)
    clear hg_ hz_
    go_wp2_with fail
    refine wp_region_held_drew (S := fun W_ => Rw W_ g1 29 [vx, vy, .bool true]) (by kernel_rfl) (hk1) (fun hS => ?_)
    have hb := below_drewN (Below.refl w1.heap.size w1) 1
    obtain ⟨w2, hw_⟩ : ∃ x, x = World.drew w1 := ⟨_, rfl⟩
    rw [show World.drewN w1 1 = w2 from hw_.symm] at hb
    rw [← hw_] at hS ⊢
    clear hw_
    replace hB := hB.trans (hb.mono hB.size)
    replace hk1 := hk1.keep hb
    clear hb
    refine wpAnyH_take (i := 0) (v := ?_) rfl (by kernel_rfl) (by kernel_rfl) (by kernel_rfl) (fun _ _ _ h => h) (Or.inl ⟨by rfl, ?_⟩) hS ?_
    rotate_left
    · intro w _; go_simp; try with_reducible rfl
    simp only [List.getElem_toArray, List.getElem_cons_zero, List.getElem_cons_succ, Act.put, List.setIfInBounds_toArray, List.set_cons_zero, List.set_cons_succ]
    refine wpAnyH_take (i := 1) (v := ?_) rfl (by kernel_rfl) (by kernel_rfl) (by kernel_rfl) (fun _ _ _ h => h) (Or.inl ⟨by rfl, ?_⟩) hS ?_
    rotate_left
    · intro W_ hW_; have c_ := Rw.cell hW_ 2 rfl; go_simp; try with_reducible rfl
    simp only [List.getElem_toArray, List.getElem_cons_zero, List.getElem_cons_succ, Act.put, List.setIfInBounds_toArray, List.set_cons_zero, List.set_cons_succ]
    refine wpAnyH_ready (rs := [2]) (by kernel_rfl) (by simp) ?_
    refine AllReadyH.cons rfl (fun K hK => ?_) AllReadyH.nil
    rw [if_pos (by rfl)]
    simp only [List.getElem_toArray, List.getElem_cons_zero, List.getElem_cons_succ]
    go_simp
    refine hK.out _ _ hS (fun hS => ?_)
    refine wpAnyH_take (i := 3) (v := undef) rfl (by kernel_rfl) (by kernel_rfl) (by kernel_rfl) (fun _ _ _ h => h) (Or.inr ⟨by rfl, rfl⟩) hS ?_
    simp only [List.getElem_toArray, List.getElem_cons_zero, List.getElem_cons_succ, Act.put, List.setIfInBounds_toArray, List.set_cons_zero, List.set_cons_succ]
    refine wpAnyH_take (i := 4) (v := undef) rfl (by kernel_rfl) (by kernel_rfl) (by kernel_rfl) (fun _ _ _ h => h) (Or.inr ⟨by rfl, rfl⟩) hS ?_
    simp only [List.getElem_toArray, List.getElem_cons_zero, List.getElem_cons_succ, Act.put, List.setIfInBounds_toArray, List.set_cons_zero, List.set_cons_succ]
    refine wpAnyH_take (i := 5) (v := undef) rfl (by kernel_rfl) (by kernel_rfl) (by kernel_rfl) (fun _ _ _ h => h) (Or.inr ⟨by rfl, rfl⟩) hS ?_
    simp only [List.getElem_toArray, List.getElem_cons_zero, List.getElem_cons_succ, Act.put, List.setIfInBounds_toArray, List.set_cons_zero, List.set_cons_succ]
    refine wpAnyH_take (i := 6) (v := undef) rfl (by kernel_rfl) (by kernel_rfl) (by kernel_rfl) (fun _ _ _ h => h) (Or.inr ⟨by rfl, rfl⟩) hS ?_
    simp only [List.getElem_toArray, List.getElem_cons_zero, List.getElem_cons_succ, Act.put, List.setIfInBounds_toArray, List.set_cons_zero, List.set_cons_succ]
    refine wpAnyH_take (i := 7) (v := undef) rfl (by kernel_rfl) (by kernel_rfl) (by kernel_rfl) (fun _ _ _ h => h) (Or.inr ⟨by rfl, rfl⟩) hS ?_
    simp only [List.getElem_toArray, List.getElem_cons_zero, List.getElem_cons_succ, Act.put, List.setIfInBounds_toArray, List.set_cons_zero, List.set_cons_succ]
    refine wpAnyH_ready (rs := [8]) (by kernel_rfl) (by simp) ?_
    refine AllReadyH.cons rfl (fun K hK => ?_) AllReadyH.nil
    rw [if_pos (by rfl)]
    simp only [List.getElem_toArray, List.getElem_cons_zero, List.getElem_cons_succ]
    go_simp
    refine hK.out _ _ hS (fun hS => ?_)
    refine wpAnyH_ready (rs := [9]) (by kernel_rfl) (by simp) ?_
    refine AllReadyH.cons rfl (fun K hK => ?_) AllReadyH.nil
    rw [if_pos (by rfl)]
    simp only [List.getElem_toArray, List.getElem_cons_zero, List.getElem_cons_succ]
    go_simp
    refine hK.out _ _ hS (fun hS => ?_)
    refine wpAnyH_take (i := 10) (v := undef) rfl (by kernel_rfl) (by kernel_rfl) (by kernel_rfl) (fun _ _ _ h => h) (Or.inr ⟨by rfl, rfl⟩) hS ?_
    simp only [List.getElem_toArray, List.getElem_cons_zero, List.getElem_cons_succ, Act.put, List.setIfInBounds_toArray, List.set_cons_zero, List.set_cons_succ]
    refine wpAnyH_take (i := 11) (v := undef) rfl (by kernel_rfl) (by kernel_rfl) (by kernel_rfl) (fun _ _ _ h => h) (Or.inr ⟨by rfl, rfl⟩) hS ?_
    simp only [List.getElem_toArray, List.getElem_cons_zero, List.getElem_cons_succ, Act.put, List.setIfInBounds_toArray, List.set_cons_zero, List.set_cons_succ]
    refine wpAnyH_take (i := 12) (v := undef) rfl (by kernel_rfl) (by kernel_rfl) (by kernel_rfl) (fun _ _ _ h => h) (Or.inr ⟨by rfl, rfl⟩) hS ?_
    simp only [List.getElem_toArray, List.getElem_cons_zero, List.getElem_cons_succ, Act.put, List.setIfInBounds_toArray, List.set_cons_zero, List.set_cons_succ]
    refine wpAnyH_take (i := 13) (v := undef) rfl (by kernel_rfl) (by kernel_rfl) (by kernel_rfl) (fun _ _ _ h => h) (Or.inr ⟨by rfl, rfl⟩) hS ?_
    simp only [List.getElem_toArray, List.getElem_cons_zero, List.getElem_cons_succ, Act.put, List.setIfInBounds_toArray, List.set_cons_zero, List.set_cons_succ]
    refine wpAnyH_take (i := 14) (v := undef) rfl (by kernel_rfl) (by kernel_rfl) (by kernel_rfl) (fun _ _ _ h => h) (Or.inr ⟨by rfl, rfl⟩) hS ?_
    simp only [List.getElem_toArray, List.getElem_cons_zero, List.getElem_cons_succ, Act.put, List.setIfInBounds_toArray, List.set_cons_zero, List.set_cons_succ]
    refine wpAnyH_ready (rs := [15]) (by kernel_rfl) (by simp) ?_
    refine AllReadyH.cons rfl (fun K hK => ?_) AllReadyH.nil
    rw [if_pos (by rfl)]
    simp only [List.getElem_toArray, List.getElem_cons_zero, List.getElem_cons_succ]
    go_simp
    refine hK.out _ _ hS (fun hS => ?_)
    refine wpAnyH_done (by kernel_rfl) ?_ _
    clear hS
    go_wp2_with fail
    go_ret
    exact ⟨by rw [HE.out]; first | done | rfl, hB⟩
  | false =>
    clear hinf
    by_cases hx : X < eP
    · by_cases hy : Y < eP
      · obtain ⟨x, rfl⟩ : ∃ x : Fp, X = x.val := ⟨⟨X, hx⟩, rfl⟩
        obtain ⟨y, rfl⟩ : ∃ y : Fp, Y = y.val := ⟨⟨Y, hy⟩, rfl⟩
        have HX := Lib.hid (cmpI_lt hx)
        have HY := Lib.hid (cmpI_lt hy)
        clear hx hy
        go_enter Tryd.func54, Tryd.ntmps54
        have hB := Below.refl w.heap.size w
        go_wp2_with (refine wpList_box_agg rfl 29 _ rfl [vx, vy, .bool false] rfl ?_)
        intro w1 hk1 hb
        have hz_ := hB.size
        replace hB := hB.trans (hb.mono hB.size)
        clear hb
        obtain ⟨g1, hg_⟩ : ∃ g, g = w.heap.size := ⟨_, rfl⟩
        rw [← hg_] at hk1 ⊢
        have HG1 : Hid (w.heap.size ≤ g1) := Lib.hid (by rw [hg_]; exact hz_)
        clear hg_ hz_
        go_wp2_with fail
        refine wp_region_held_drew (S := fun W_ => Rw W_ g1 29 [vx, vy, .bool false]) (by kernel_rfl) (hk1) (fun hS => ?_)
        have hb := below_drewN (Below.refl w1.heap.size w1) 1
        obtain ⟨w2, hw_⟩ : ∃ x, x = World.drew w1 := ⟨_, rfl⟩
        rw [show World.drewN w1 1 = w2 from hw_.symm] at hb
        rw [← hw_] at hS ⊢
        clear hw_
        replace hB := hB.trans (hb.mono hB.size)
        replace hk1 := hk1.keep hb
        clear hb
        refine wpAnyH_take (i := 0) (v := ?_) rfl (by kernel_rfl) (by kernel_rfl) (by kernel_rfl) (fun _ _ _ h => h) (Or.inl ⟨by rfl, ?_⟩) hS ?_
        rotate_left
        · intro w _; go_simp; try with_reducible rfl
        simp only [List.getElem_toArray, List.getElem_cons_zero, List.getElem_cons_succ, Act.put, List.setIfInBounds_toArray, List.set_cons_zero, List.set_cons_succ]
        refine wpAnyH_take (i := 1) (v := ?_) rfl (by kernel_rfl) (by kernel_rfl) (by kernel_rfl) (fun _ _ _ h => h) (Or.inl ⟨by rfl, ?_⟩) hS ?_
        rotate_left
        · intro W_ hW_; have c_ := Rw.cell hW_ 2 rfl; go_simp; try with_reducible rfl
        simp only [List.getElem_toArray, List.getElem_cons_zero, List.getElem_cons_succ, Act.put, List.setIfInBounds_toArray, List.set_cons_zero, List.set_cons_succ]
        refine wpAnyH_ready (rs := [2]) (by kernel_rfl) (by simp) ?_
        refine AllReadyH.cons rfl (fun K hK => ?_) AllReadyH.nil
        rw [if_pos (by rfl)]
        simp only [List.getElem_toArray, List.getElem_cons_zero, List.getElem_cons_succ]
        go_simp
        refine hK.out _ _ hS (fun hS => ?_)
        refine wpAnyH_take (i := 3) (v := ?_) rfl (by kernel_rfl) (by kernel_rfl) (by kernel_rfl) (fun _ _ _ h => h) (Or.inl ⟨by rfl, ?_⟩) hS ?_
        rotate_left
        · intro w _; go_simp; try with_reducible rfl
        simp only [List.getElem_toArray, List.getElem_cons_zero, List.getElem_cons_succ, Act.put, List.setIfInBounds_toArray, List.set_cons_zero, List.set_cons_succ]
        refine wpAnyH_take (i := 4) (v := ?_) rfl (by kernel_rfl) (by kernel_rfl) (by kernel_rfl) (fun _ _ _ h => h) (Or.inl ⟨by rfl, ?_⟩) hS ?_
        rotate_left
        · intro W_ hW_; have c_ := Rw.cell hW_ 0 rfl; go_simp; try with_reducible rfl
        simp only [List.getElem_toArray, List.getElem_cons_zero, List.getElem_cons_succ, Act.put, List.setIfInBounds_toArray, List.set_cons_zero, List.set_cons_succ]
        refine wpAnyH_ready (rs := [5]) (by kernel_rfl) (by simp) ?_
        refine AllReadyH.cons rfl (fun K hK => ?_) AllReadyH.nil
        rw [if_pos (by rfl)]
        simp only [List.getElem_toArray, List.getElem_cons_zero, List.getElem_cons_succ]
        go_simp
        refine (prime_c w2 (tP.below hB)).mono ?_; rintro e_ w3 ⟨v10, rfl, c10, hb⟩
        dsimp only
        replace hB := hB.trans (hb.mono hB.size)
        replace hk1 := hk1.keep hb
        clear hb
        refine hK.out _ _ hk1 (fun hS => ?_)
        have h_ := cmp_v (nx.below hB) c10.num
        rw [HX.out] at h_
        refine wpAnyH_ready (rs := [6]) (by kernel_rfl) (by simp) ?_
        refine AllReadyH.cons rfl (fun K hK => ?_) AllReadyH.nil
        rw [if_pos (by rfl)]
        simp only [List.getElem_toArray, List.getElem_cons_zero, List.getElem_cons_succ]
        go_simp
        refine (h_).mono ?_; rintro e_ w4 ⟨rfl, hd_⟩
        dsimp only
        have hb := hd_.b
        replace hB := hB.trans (hb.mono hB.size)
        replace hk1 := hk1.keep hb
        replace c10 := c10.below hb
        clear hb hd_ h_
        refine hK.out _ _ hk1 (fun hS => ?_)
        refine wpAnyH_ready (rs := [7]) (by kernel_rfl) (by simp) ?_
        refine AllReadyH.cons rfl (fun K hK => ?_) AllReadyH.nil
        rw [if_pos (by rfl)]
        simp only [List.getElem_toArray, List.getElem_cons_zero, List.getElem_cons_succ]
        go_simp
        refine hK.out _ _ hS (fun hS => ?_)
        refine wpAnyH_ready (rs := [8]) (by kernel_rfl) (by simp) ?_
        refine AllReadyH.cons rfl (fun K hK => ?_) AllReadyH.nil
        rw [if_pos (by rfl)]
        simp only [List.getElem_toArray, List.getElem_cons_zero, List.getElem_cons_succ]
        go_simp
        refine hK.out _ _ hS (fun hS => ?_)
        refine wpAnyH_ready (rs := [9]) (by kernel_rfl) (by simp) ?_
        refine AllReadyH.cons rfl (fun K hK => ?_) AllReadyH.nil
        rw [if_pos (by rfl)]
        simp only [List.getElem_toArray, List.getElem_cons_zero, List.getElem_cons_succ]
        go_simp
        refine hK.out _ _ hS (fun hS => ?_)
        refine wpAnyH_take (i := 10) (v := ?_) rfl (by kernel_rfl) (by kernel_rfl) (by kernel_rfl) (fun _ _ _ h => h) (Or.inl ⟨by rfl, ?_⟩) hS ?_
        rotate_left
        · intro w _; go_simp; try with_reducible rfl
        simp only [List.getElem_toArray, List.getElem_cons_zero, List.getElem_cons_succ, Act.put, List.setIfInBounds_toArray, List.set_cons_zero, List.set_cons_succ]
        refine wpAnyH_take (i := 11) (v := ?_) rfl (by kernel_rfl) (by kernel_rfl) (by kernel_rfl) (fun _ _ _ h => h) (Or.inl ⟨by rfl, ?_⟩) hS ?_
        rotate_left
        · intro W_ hW_; have c_ := Rw.cell hW_ 1 rfl; go_simp; try with_reducible rfl
        simp only [List.getElem_toArray, List.getElem_cons_zero, List.getElem_cons_succ, Act.put, List.setIfInBounds_toArray, List.set_cons_zero, List.set_cons_succ]
        refine wpAnyH_ready (rs := [12]) (by kernel_rfl) (by simp) ?_
        refine AllReadyH.cons rfl (fun K hK => ?_) AllReadyH.nil
        rw [if_pos (by rfl)]
        simp only [List.getElem_toArray, List.getElem_cons_zero, List.getElem_cons_succ]
        go_simp
        refine (prime_c w4 (tP.below hB)).mono ?_; rintro e_ w5 ⟨v17, rfl, c17, hb⟩
        dsimp only
        replace hB := hB.trans (hb.mono hB.size)
        replace hk1 := hk1.keep hb
        replace c10 := c10.below hb
        clear hb
        refine hK.out _ _ hk1 (fun hS => ?_)
        have h_ := cmp_v (ny.below hB) c17.num
        rw [HY.out] at h_
        refine wpAnyH_ready (rs := [13]) (by kernel_rfl) (by simp) ?_
        refine AllReadyH.cons rfl (fun K hK => ?_) AllReadyH.nil
        rw [if_pos (by rfl)]
        simp only [List.getElem_toArray, List.getElem_cons_zero, List.getElem_cons_succ]
        go_simp
        refine (h_).mono ?_; rintro e_ w6 ⟨rfl, hd_⟩
        dsimp only
        have hb := hd_.b
        replace hB := hB.trans (hb.mono hB.size)
        replace hk1 := hk1.keep hb
        replace c10 := c10.below hb
        replace c17 := c17.below hb
        clear hb hd_ h_
        refine hK.out _ _ hk1 (fun hS => ?_)
        refine wpAnyH_ready (rs := [14]) (by kernel_rfl) (by simp) ?_
        refine AllReadyH.cons rfl (fun K hK => ?_) AllReadyH.nil
        rw [if_pos (by rfl)]
        simp only [List.getElem_toArray, List.getElem_cons_zero, List.getElem_cons_succ]
        go_simp
        refine hK.out _ _ hS (fun hS => ?_)
        refine wpAnyH_ready (rs := [15]) (by kernel_rfl) (by simp) ?_
        refine AllReadyH.cons rfl (fun K hK => ?_) AllReadyH.nil
        rw [if_pos (by rfl)]
        simp only [List.getElem_toArray, List.getElem_cons_zero, List.getElem_cons_succ]
        go_simp
        refine hK.out _ _ hS (fun hS => ?_)
        refine wpAnyH_done (by kernel_rfl) ?_ _
        clear hS
        clear c10
        clear c17
        go_wp2_with fail
        refine wp_region_held_drew (S := fun W_ => Rw W_ g1 29 [vx, vy, .bool false]) (by kernel_rfl) (hk1) (fun hS => ?_)
        have hb := below_drewN (Below.refl w6.heap.size w6) 1
        obtain ⟨w7, hw_⟩ : ∃ x, x = World.drew w6 := ⟨_, rfl⟩
        rw [show World.drewN w6 1 = w7 from hw_.symm] at hb
        rw [← hw_] at hS ⊢
        clear hw_
        replace hB := hB.trans (hb.mono hB.size)
        replace hk1 := hk1.keep hb
        clear hb
        refine wpAnyH_take (i := 0) (v := ?_) rfl (by kernel_rfl) (by kernel_rfl) (by kernel_rfl) (fun _ _ _ h => h) (Or.inl ⟨by rfl, ?_⟩) hS ?_
        rotate_left
        · intro w _; go_simp; try with_reducible rfl
        simp only [List.getElem_toArray, List.getElem_cons_zero, List.getElem_cons_succ, Act.put, List.setIfInBounds_toArray, List.set_cons_zero, List.set_cons_succ]
        refine wpAnyH_take (i := 1) (v := ?_) rfl (by kernel_rfl) (by kernel_rfl) (by kernel_rfl) (fun _ _ _ h => h) (Or.inl ⟨by rfl, ?_⟩) hS ?_
        rotate_left
        · intro W_ hW_; have c_ := Rw.cell hW_ 0 rfl; go_simp; try with_reducible rfl
        simp only [List.getElem_toArray, List.getElem_cons_zero, List.getElem_cons_succ, Act.put, List.setIfInBounds_toArray, List.set_cons_zero, List.set_cons_succ]
        refine wpAnyH_take (i := 2) (v := ?_) rfl (by kernel_rfl) (by kernel_rfl) (by kernel_rfl) (fun _ _ _ h => h) (Or.inl ⟨by rfl, ?_⟩) hS ?_
        rotate_left
        · intro w _; go_simp; try with_reducible rfl
        simp only [List.getElem_toArray, List.getElem_cons_zero, List.getElem_cons_succ, Act.put, List.setIfInBounds_toArray, List.set_cons_zero, List.set_cons_succ]
        refine wpAnyH_take (i := 3) (v := ?_) rfl (by kernel_rfl) (by kernel_rfl) (by kernel_rfl) (fun _ _ _ h => h) (Or.inl ⟨by rfl, ?_⟩) hS ?_
        rotate_left
        · intro W_ hW_; have c_ := Rw.cell hW_ 0 rfl; go_simp; try with_reducible rfl
        simp only [List.getElem_toArray, List.getElem_cons_zero, List.getElem_cons_succ, Act.put, List.setIfInBounds_toArray, List.set_cons_zero, List.set_cons_succ]
        refine wpAnyH_take (i := 5) (v := ?_) rfl (by kernel_rfl) (by kernel_rfl) (by kernel_rfl) (fun _ _ _ h => h) (Or.inl ⟨by rfl, ?_⟩) hS ?_
        rotate_left
        · intro w _; go_simp; try with_reducible rfl
        simp only [List.getElem_toArray, List.getElem_cons_zero, List.getElem_cons_succ, Act.put, List.setIfInBounds_toArray, List.set_cons_zero, List.set_cons_succ]
        refine wpAnyH_take (i := 6) (v := ?_) rfl (by kernel_rfl) (by kernel_rfl) (by kernel_rfl) (fun _ _ _ h => h) (Or.inl ⟨by rfl, ?_⟩) hS ?_
        rotate_left
        · intro W_ hW_; have c_ := Rw.cell hW_ 1 rfl; go_simp; try with_reducible rfl
        simp only [List.getElem_toArray, List.getElem_cons_zero, List.getElem_cons_succ, Act.put, List.setIfInBounds_toArray, List.set_cons_zero, List.set_cons_succ]
        refine wpAnyH_take (i := 7) (v := ?_) rfl (by kernel_rfl) (by kernel_rfl) (by kernel_rfl) (fun _ _ _ h => h) (Or.inl ⟨by rfl, ?_⟩) hS ?_
        rotate_left
        · intro w _; go_simp; try with_reducible rfl
        simp only [List.getElem_toArray, List.getElem_cons_zero, List.getElem_cons_succ, Act.put, List.setIfInBounds_toArray, List.set_cons_zero, List.set_cons_succ]
        refine wpAnyH_take (i := 8) (v := ?_) rfl (by kernel_rfl) (by kernel_rfl) (by kernel_rfl) (fun _ _ _ h => h) (Or.inl ⟨by rfl, ?_⟩) hS ?_
        rotate_left
        · intro W_ hW_; have c_ := Rw.cell hW_ 1 rfl; go_simp; try with_reducible rfl
        simp only [List.getElem_toArray, List.getElem_cons_zero, List.getElem_cons_succ, Act.put, List.setIfInBounds_toArray, List.set_cons_zero, List.set_cons_succ]
        refine wpAnyH_ready (rs := [4]) (by kernel_rfl) (by simp) ?_
        refine AllReadyH.cons rfl (fun K hK => ?_) AllReadyH.nil
        rw [if_pos (by rfl)]
        simp only [List.getElem_toArray, List.getElem_cons_zero, List.getElem_cons_succ]
        go_simp
        refine (mul_f (nx.below hB) (nx.below hB) (tP.below hB)).mono ?_; rintro e_ w8 ⟨v25, rfl, hn, hb⟩
        dsimp only
        have c25 := hn.fp
        replace hB := hB.trans (hb.mono hB.size)
        replace hk1 := hk1.keep hb
        clear hb hn
        refine hK.out _ _ hk1 (fun hS => ?_)
        refine wpAnyH_ready (rs := [9]) (by kernel_rfl) (by simp) ?_
        refine AllReadyH.cons rfl (fun K hK => ?_) AllReadyH.nil
        rw [if_pos (by rfl)]
        simp only [List.getElem_toArray, List.getElem_cons_zero, List.getElem_cons_succ]
        go_simp
        refine (mul_f (ny.below hB) (ny.below hB) (tP.below hB)).mono ?_; rintro e_ w9 ⟨v30, rfl, hn, hb⟩
        dsimp only
        have c30 := hn.fp
        replace hB := hB.trans (hb.mono hB.size)
        replace hk1 := hk1.keep hb
        replace c25 := c25.below hb
        clear hb hn
        refine hK.out _ _ hk1 (fun hS => ?_)
        refine wpAnyH_ready (rs := [10]) (by kernel_rfl) (by simp) ?_
        refine AllReadyH.cons rfl (fun K hK => ?_) AllReadyH.nil
        rw [if_pos (by rfl)]
        simp only [List.getElem_toArray, List.getElem_cons_zero, List.getElem_cons_succ]
        go_simp
        refine hK.out _ _ hS (fun hS => ?_)
        refine wpAnyH_ready (rs := [11]) (by kernel_rfl) (by simp) ?_
        refine AllReadyH.cons rfl (fun K hK => ?_) AllReadyH.nil
        rw [if_pos (by rfl)]
        simp only [List.getElem_toArray, List.getElem_cons_zero, List.getElem_cons_succ]
        go_simp
        refine hK.out _ _ hS (fun hS => ?_)
        refine wpAnyH_done (by kernel_rfl) ?_ _
        clear hS
        go_wp2_with fail
        refine (sub_f c30.num c25.num (tP.below hB)).mono ?_; rintro e_ w10 ⟨v33, rfl, hn, hb⟩
        have c33 := hn.fp
        replace hB := hB.trans (hb.mono hB.size)
        replace hk1 := hk1.keep hb
        replace c25 := c25.below hb
        replace c30 := c30.below hb
        clear hb hn
        go_wp2_with (refine wpList_lit rfl 27 36 _ rfl Tryd.underlying27 info32e 1 rfl ?_)
        intro w11 hl hb
        have c34 := (NatRes.lit (c := 1) hl (Nat.zero_le _) (by omega) (by omega)).can (k := 1) (by exact ⟨by decide⟩) (by omega)
        replace c34 : CanAt w11 _ (1 : Fp).val := c34
        obtain ⟨v34, hv34⟩ : ∃ v, v = Value.slice (some ⟨w10.heap.size, 0, none⟩) 1 1 := ⟨_, rfl⟩
        rw [← hv34] at c34 ⊢
        clear hv34 hl
        replace hB := hB.trans (hb.mono hB.size)
        replace hk1 := hk1.keep hb
        replace c25 := c25.below hb
        replace c30 := c30.below hb
        replace c33 := c33.below hb
        clear hb
        go_wp2_with fail
        refine (curve_c w11 (tD.below hB)).mono ?_; rintro e_ w12 ⟨v35, rfl, c35, hb⟩
        replace hB := hB.trans (hb.mono hB.size)
        replace hk1 := hk1.keep hb
        replace c25 := c25.below hb
        replace c30 := c30.below hb
        replace c33 := c33.below hb
        replace c34 := c34.below hb
        clear hb
        go_wp2_with fail
        refine (mul_f c25.num c30.num (tP.below hB)).mono ?_; rintro e_ w13 ⟨v38, rfl, hn, hb⟩
        have c38 := hn.fp
        replace hB := hB.trans (hb.mono hB.size)
        replace hk1 := hk1.keep hb
        replace c25 := c25.below hb
        replace c30 := c30.below hb
        replace c33 := c33.below hb
        replace c34 := c34.below hb
        replace c35 := c35.below hb
        clear hb hn
        go_wp2_with fail
        refine (mul_f c35.num c38.num (tP.below hB)).mono ?_; rintro e_ w14 ⟨v39, rfl, hn, hb⟩
        have c39 := hn.fp
        replace hB := hB.trans (hb.mono hB.size)
        replace hk1 := hk1.keep hb
        replace c25 := c25.below hb
        replace c30 := c30.below hb
        replace c33 := c33.below hb
        replace c34 := c34.below hb
        replace c35 := c35.below hb
        replace c38 := c38.below hb
        clear hb hn
        go_wp2_with fail
        refine (add_f c34.num c39.num (tP.below hB)).mono ?_; rintro e_ w15 ⟨v40, rfl, hn, hb⟩
        have c40 := hn.fp
        replace hB := hB.trans (hb.mono hB.size)
        replace hk1 := hk1.keep hb
        replace c25 := c25.below hb
        replace c30 := c30.below hb
        replace c33 := c33.below hb
        replace c34 := c34.below hb
        replace c35 := c35.below hb
        replace c38 := c38.below hb
        replace c39 := c39.below hb
        clear hb hn
        go_wp2_with fail
        by_cases hon : y * y - x * x = 1 + eD * (x * x * (y * y))
        · have HE := Lib.hid (onB_is hon)
          have h_ := cmp_v c33.num c40.num
          rw [cmpI_eq (congrArg Fin.val hon)] at h_
          clear hon
          refine h_.mono ?_; rintro e_ wz ⟨rfl, hd_⟩
          clear h_
          go_wp2_with fail
          go_ret
          exact ⟨by rw [HE.out]; first | done | rfl, hB.trans (hd_.b.mono hB.size)⟩
        · have HE := Lib.hid (onB_no hon)
          obtain ⟨ck, hck⟩ : ∃ c, c = cmpI (y * y - x * x).val (1 + eD * (x * x * (y * y))).val := ⟨_, rfl⟩
          have hne : (ck == 0) = false := by rw [hck]; simpa using cmpI_ne_ (fun h => hon (fp_ext h))
          have h_ := cmp_v c33.num c40.num
          rw [← hck] at h_
          clear hon hck
          refine h_.mono ?_; rintro e_ wz ⟨rfl, hd_⟩
          clear h_
          go_wp2_with fail
          go_ret
          exact ⟨by rw [HE.out]; first | done | rfl, hB.trans (hd_.b.mono hB.size)⟩
      · have HE := Lib.hid (onB_y (X := X) (inf := false) hy)
        have HX := Lib.hid (cmpI_lt hx)
        obtain ⟨cj, hcj⟩ : ∃ c, c = cmpI Y eP := ⟨_, rfl⟩
        have hdc : decide ((0 : Int) ≤ cj) = true := decide_eq_true (by rw [hcj]; exact cmpI_ge_ hy)
        have HCJ := Lib.hid hcj
        clear hx hy hcj
        go_enter Tryd.func54, Tryd.ntmps54
        have hB := Below.refl w.heap.size w
        go_wp2_with (refine wpList_box_agg rfl 29 _ rfl [vx, vy, .bool false] rfl ?_)
        intro w1 hk1 hb
        have hz_ := hB.size
        replace hB := hB.trans (hb.mono hB.size)
        clear hb
        obtain ⟨g1, hg_⟩ : ∃ g, g = w.heap.size := ⟨_, rfl⟩
        rw [← hg_] at hk1 ⊢
        have HG1 : Hid (w.heap.size ≤ g1) := Lib.hid (by rw [hg_]; exact hz_)
        clear hg_ hz_
        go_wp2_with fail
        refine wp_region_held_drew (S := fun W_ => Rw W_ g1 29 [vx, vy, .bool false]) (by kernel_rfl) (hk1) (fun hS => ?_)
        have hb := below_drewN (Below.refl w1.heap.size w1) 1
        obtain ⟨w2, hw_⟩ : ∃ x, x = World.drew w1 := ⟨_, rfl⟩
        rw [show World.drewN w1 1 = w2 from hw_.symm] at hb
        rw [← hw_] at hS ⊢
        clear hw_
        replace hB := hB.trans (hb.mono hB.size)
        replace hk1 := hk1.keep hb
        clear hb
        refine wpAnyH_take (i := 0) (v := ?_) rfl (by kernel_rfl) (by kernel_rfl) (by kernel_rfl) (fun _ _ _ h => h) (Or.inl ⟨by rfl, ?_⟩) hS ?_
        rotate_left
        · intro w _; go_simp; try with_reducible rfl
        simp only [List.getElem_toArray, List.getElem_cons_zero, List.getElem_cons_succ, Act.put, List.setIfInBounds_toArray, List.set_cons_zero, List.set_cons_succ]
        refine wpAnyH_take (i := 1) (v := ?_) rfl (by kernel_rfl) (by kernel_rfl) (by kernel_rfl) (fun _ _ _ h => h) (Or.inl ⟨by rfl, ?_⟩) hS ?_
        rotate_left
        · intro W_ hW_; have c_ := Rw.cell hW_ 2 rfl; go_simp; try with_reducible rfl
        simp only [List.getElem_toArray, List.getElem_cons_zero, List.getElem_cons_succ, Act.put, List.setIfInBounds_toArray, List.set_cons_zero, List.set_cons_succ]
        refine wpAnyH_ready (rs := [2]) (by kernel_rfl) (by simp) ?_
        refine AllReadyH.cons rfl (fun K hK => ?_) AllReadyH.nil
        rw [if_pos (by rfl)]
        simp only [List.getElem_toArray, List.getElem_cons_zero, List.getElem_cons_succ]
        go_simp
        refine hK.out _ _ hS (fun hS => ?_)
        refine wpAnyH_take (i := 3) (v := ?_) rfl (by kernel_rfl) (by kernel_rfl) (by kernel_rfl) (fun _ _ _ h => h) (Or.inl ⟨by rfl, ?_⟩) hS ?_
        rotate_left
        · intro w _; go_simp; try with_reducible rfl
        simp only [List.getElem_toArray, List.getElem_cons_zero, List.getElem_cons_succ, Act.put, List.setIfInBounds_toArray, List.set_cons_zero, List.set_cons_succ]
        refine wpAnyH_take (i := 4) (v := ?_) rfl (by kernel_rfl) (by kernel_rfl) (by kernel_rfl) (fun _ _ _ h => h) (Or.inl ⟨by rfl, ?_⟩) hS ?_
        rotate_left
        · intro W_ hW_; have c_ := Rw.cell hW_ 0 rfl; go_simp; try with_reducible rfl
        simp only [List.getElem_toArray, List.getElem_cons_zero, List.getElem_cons_succ, Act.put, List.setIfInBounds_toArray, List.set_cons_zero, List.set_cons_succ]
        refine wpAnyH_ready (rs := [5]) (by kernel_rfl) (by simp) ?_
        refine AllReadyH.cons rfl (fun K hK => ?_) AllReadyH.nil
        rw [if_pos (by rfl)]
        simp only [List.getElem_toArray, List.getElem_cons_zero, List.getElem_cons_succ]
        go_simp
        refine (prime_c w2 (tP.below hB)).mono ?_; rintro e_ w3 ⟨v10, rfl, c10, hb⟩
        dsimp only
        replace hB := hB.trans (hb.mono hB.size)
        replace hk1 := hk1.keep hb
        clear hb
        refine hK.out _ _ hk1 (fun hS => ?_)
        have h_ := cmp_v (nx.below hB) c10.num
        rw [HX.out] at h_
        refine wpAnyH_ready (rs := [6]) (by kernel_rfl) (by simp) ?_
        refine AllReadyH.cons rfl (fun K hK => ?_) AllReadyH.nil
        rw [if_pos (by rfl)]
        simp only [List.getElem_toArray, List.getElem_cons_zero, List.getElem_cons_succ]
        go_simp
        refine (h_).mono ?_; rintro e_ w4 ⟨rfl, hd_⟩
        dsimp only
        have hb := hd_.b
        replace hB := hB.trans (hb.mono hB.size)
        replace hk1 := hk1.keep hb
        replace c10 := c10.below hb
        clear hb hd_ h_
        refine hK.out _ _ hk1 (fun hS => ?_)
        refine wpAnyH_ready (rs := [7]) (by kernel_rfl) (by simp) ?_
        refine AllReadyH.cons rfl (fun K hK => ?_) AllReadyH.nil
        rw [if_pos (by rfl)]
        simp only [List.getElem_toArray, List.getElem_cons_zero, List.getElem_cons_succ]
        go_simp
        refine hK.out _ _ hS (fun hS => ?_)
        refine wpAnyH_ready (rs := [8]) (by kernel_rfl) (by simp) ?_
        refine AllReadyH.cons rfl (fun K hK => ?_) AllReadyH.nil
        rw [if_pos (by rfl)]
        simp only [List.getElem_toArray, List.getElem_cons_zero, List.getElem_cons_succ]
        go_simp
        refine hK.out _ _ hS (fun hS => ?_)
        refine wpAnyH_ready (rs := [9]) (by kernel_rfl) (by simp) ?_
        refine AllReadyH.cons rfl (fun K hK => ?_) AllReadyH.nil
        rw [if_pos (by rfl)]
        simp only [List.getElem_toArray, List.getElem_cons_zero, List.getElem_cons_succ]
        go_simp
        refine hK.out _ _ hS (fun hS => ?_)
        refine wpAnyH_take (i := 10) (v := ?_) rfl (by kernel_rfl) (by kernel_rfl) (by kernel_rfl) (fun _ _ _ h => h) (Or.inl ⟨by rfl, ?_⟩) hS ?_
        rotate_left
        · intro w _; go_simp; try with_reducible rfl
        simp only [List.getElem_toArray, List.getElem_cons_zero, List.getElem_cons_succ, Act.put, List.setIfInBounds_toArray, List.set_cons_zero, List.set_cons_succ]
        refine wpAnyH_take (i := 11) (v := ?_) rfl (by kernel_rfl) (by kernel_rfl) (by kernel_rfl) (fun _ _ _ h => h) (Or.inl ⟨by rfl, ?_⟩) hS ?_
        rotate_left
        · intro W_ hW_; have c_ := Rw.cell hW_ 1 rfl; go_simp; try with_reducible rfl
        simp only [List.getElem_toArray, List.getElem_cons_zero, List.getElem_cons_succ, Act.put, List.setIfInBounds_toArray, List.set_cons_zero, List.set_cons_succ]
        refine wpAnyH_ready (rs := [12]) (by kernel_rfl) (by simp) ?_
        refine AllReadyH.cons rfl (fun K hK => ?_) AllReadyH.nil
        rw [if_pos (by rfl)]
        simp only [List.getElem_toArray, List.getElem_cons_zero, List.getElem_cons_succ]
        go_simp
        refine (prime_c w4 (tP.below hB)).mono ?_; rintro e_ w5 ⟨v17, rfl, c17, hb⟩
        dsimp only
        replace hB := hB.trans (hb.mono hB.size)
        replace hk1 := hk1.keep hb
        replace c10 := c10.below hb
        clear hb
        refine hK.out _ _ hk1 (fun hS => ?_)
        have h_ := cmp_v (ny.below hB) c17.num
        rw [← HCJ.out] at h_
        refine wpAnyH_ready (rs := [13]) (by kernel_rfl) (by simp) ?_
        refine AllReadyH.cons rfl (fun K hK => ?_) AllReadyH.nil
        rw [if_pos (by rfl)]
        simp only [List.getElem_toArray, List.getElem_cons_zero, List.getElem_cons_succ]
        go_simp
        refine (h_).mono ?_; rintro e_ w6 ⟨rfl, hd_⟩
        dsimp only
        have hb := hd_.b
        replace hB := hB.trans (hb.mono hB.size)
        replace hk1 := hk1.keep hb
        replace c10 := c10.below hb
        replace c17 := c17.below hb
        clear hb hd_ h_
        refine hK.out _ _ hk1 (fun hS => ?_)
        refine wpAnyH_ready (rs := [14]) (by kernel_rfl) (by simp) ?_
        refine AllReadyH.cons rfl (fun K hK => ?_) AllReadyH.nil
        rw [if_pos (by rfl)]
        simp only [List.getElem_toArray, List.getElem_cons_zero, List.getElem_cons_succ]
        go_simp
        refine hK.out _ _ hS (fun hS => ?_)
        refine wpAnyH_ready (rs := [15]) (by kernel_rfl) (by simp) ?_
        refine AllReadyH.cons rfl (fun K hK => ?_) AllReadyH.nil
        rw [if_pos (by rfl)]
        simp only [List.getElem_toArray, List.getElem_cons_zero, List.getElem_cons_succ]
        go_simp
        refine hK.out _ _ hS (fun hS => ?_)
        refine wpAnyH_done (by kernel_rfl) ?_ _
        clear hS
        go_wp2_with fail
        go_ret
        exact ⟨by rw [HE.out]; first | done | rfl, hB⟩
    · have HE := Lib.hid (onB_x (Y := Y) (inf := false) hx)
      obtain ⟨cj, hcj⟩ : ∃ c, c = cmpI X eP := ⟨_, rfl⟩
      have hdc : decide ((0 : Int) ≤ cj) = true := decide_eq_true (by rw [hcj]; exact cmpI_ge_ hx)
      have HCJ := Lib.hid hcj
      clear hx hcj
      go_enter Tryd.func54, Tryd.ntmps54
      have hB := Below.refl w.heap.size w
      go_wp2_with (refine wpList_box_agg rfl 29 _ rfl [vx, vy, .bool false] rfl ?_)
      intro w1 hk1 hb
      have hz_ := hB.size
      replace hB := hB.trans (hb.mono hB.size)
      clear hb
      obtain ⟨g1, hg_⟩ : ∃ g, g = w.heap.size := ⟨_, rfl⟩
      rw [← hg_] at hk1 ⊢
      have HG1 : Hid (w.heap.size ≤ g1) := Lib.hid (by rw [hg_]; exact hz_)
      clear hg_ hz_
      go_wp2_with fail
      refine wp_region_held_drew (S := fun W_ => Rw W_ g1 29 [vx, vy, .bool false]) (by kernel_rfl) (hk1) (fun hS => ?_)
      have hb := below_drewN (Below.refl w1.heap.size w1) 1
      obtain ⟨w2, hw_⟩ : ∃ x, x = World.drew w1 := ⟨_, rfl⟩
      rw [show World.drewN w1 1 = w2 from hw_.symm] at hb
      rw [← hw_] at hS ⊢
      clear hw_
      replace hB := hB.trans (hb.mono hB.size)
      replace hk1 := hk1.keep hb
      clear hb
      refine wpAnyH_take (i := 0) (v := ?_) rfl (by kernel_rfl) (by kernel_rfl) (by kernel_rfl) (fun _ _ _ h => h) (Or.inl ⟨by rfl, ?_⟩) hS ?_
      rotate_left
      · intro w _; go_simp; try with_reducible rfl
      simp only [List.getElem_toArray, List.getElem_cons_zero, List.getElem_cons_succ, Act.put, List.setIfInBounds_toArray, List.set_cons_zero, List.set_cons_succ]
      refine wpAnyH_take (i := 1) (v := ?_) rfl (by kernel_rfl) (by kernel_rfl) (by kernel_rfl) (fun _ _ _ h => h) (Or.inl ⟨by rfl, ?_⟩) hS ?_
      rotate_left
      · intro W_ hW_; have c_ := Rw.cell hW_ 2 rfl; go_simp; try with_reducible rfl
      simp only [List.getElem_toArray, List.getElem_cons_zero, List.getElem_cons_succ, Act.put, List.setIfInBounds_toArray, List.set_cons_zero, List.set_cons_succ]
      refine wpAnyH_ready (rs := [2]) (by kernel_rfl) (by simp) ?_
      refine AllReadyH.cons rfl (fun K hK => ?_) AllReadyH.nil
      rw [if_pos (by rfl)]
      simp only [List.getElem_toArray, List.getElem_cons_zero, List.getElem_cons_succ]
      go_simp
      refine hK.out _ _ hS (fun hS => ?_)
      refine wpAnyH_take (i := 3) (v := ?_) rfl (by kernel_rfl) (by kernel_rfl) (by kernel_rfl) (fun _ _ _ h => h) (Or.inl ⟨by rfl, ?_⟩) hS ?_
      rotate_left
      · intro w _; go_simp; try with_reducible rfl
      simp only [List.getElem_toArray, List.getElem_cons_zero, List.getElem_cons_succ, Act.put, List.setIfInBounds_toArray, List.set_cons_zero, List.set_cons_succ]
      refine wpAnyH_take (i := 4) (v := ?_) rfl (by kernel_rfl) (by kernel_rfl) (by kernel_rfl) (fun _ _ _ h => h) (Or.inl ⟨by rfl, ?_⟩) hS ?_
      rotate_left
      · intro W_ hW_; have c_ := Rw.cell hW_ 0 rfl; go_simp; try with_reducible rfl
      simp only [List.getElem_toArray, List.getElem_cons_zero, List.getElem_cons_succ, Act.put, List.setIfInBounds_toArray, List.set_cons_zero, List.set_cons_succ]
      refine wpAnyH_ready (rs := [5]) (by kernel_rfl) (by simp) ?_
      refine AllReadyH.cons rfl (fun K hK => ?_) AllReadyH.nil
      rw [if_pos (by rfl)]
      simp only [List.getElem_toArray, List.getElem_cons_zero, List.getElem_cons_succ]
      go_simp
      refine (prime_c w2 (tP.below hB)).mono ?_; rintro e_ w3 ⟨v10, rfl, c10, hb⟩
      dsimp only
      replace hB := hB.trans (hb.mono hB.size)
      replace hk1 := hk1.keep hb
      clear hb
      refine hK.out _ _ hk1 (fun hS => ?_)
      have h_ := cmp_v (nx.below hB) c10.num
      rw [← HCJ.out] at h_
      refine wpAnyH_ready (rs := [6]) (by kernel_rfl) (by simp) ?_
      refine AllReadyH.cons rfl (fun K hK => ?_) AllReadyH.nil
      rw [if_pos (by rfl)]
      simp only [List.getElem_toArray, List.getElem_cons_zero, List.getElem_cons_succ]
      go_simp
      refine (h_).mono ?_; rintro e_ w4 ⟨rfl, hd_⟩
      dsimp only
      have hb := hd_.b
      replace hB := hB.trans (hb.mono hB.size)
      replace hk1 := hk1.keep hb
      replace c10 := c10.below hb
      clear hb hd_ h_
      refine hK.out _ _ hk1 (fun hS => ?_)
      refine wpAnyH_ready (rs := [7]) (by kernel_rfl) (by simp) ?_
      refine AllReadyH.cons rfl (fun K hK => ?_) AllReadyH.nil
      rw [if_pos (by rfl)]
      simp only [List.getElem_toArray, List.getElem_cons_zero, List.getElem_cons_succ]
      go_simp
      refine hK.out _ _ hS (fun hS => ?_)
      refine wpAnyH_ready (rs := [8]) (by kernel_rfl) (by simp) ?_
      refine AllReadyH.cons rfl (fun K hK => ?_) AllReadyH.nil
      rw [if_pos (by rfl)]
      simp only [List.getElem_toArray, List.getElem_cons_zero, List.getElem_cons_succ]
      go_simp
      refine hK.out _ _ hS (fun hS => ?_)
      refine wpAnyH_ready (rs := [9]) (by kernel_rfl) (by simp) ?_
      refine AllReadyH.cons rfl (fun K hK => ?_) AllReadyH.nil
      rw [if_pos (by rfl)]
      simp only [List.getElem_toArray, List.getElem_cons_zero, List.getElem_cons_succ]
      go_simp
      refine hK.out _ _ hS (fun hS => ?_)
      refine wpAnyH_take (i := 10) (v := undef) rfl (by kernel_rfl) (by kernel_rfl) (by kernel_rfl) (fun _ _ _ h => h) (Or.inr ⟨by rfl, rfl⟩) hS ?_
      simp only [List.getElem_toArray, List.getElem_cons_zero, List.getElem_cons_succ, Act.put, List.setIfInBounds_toArray, List.set_cons_zero, List.set_cons_succ]
      refine wpAnyH_take (i := 11) (v := undef) rfl (by kernel_rfl) (by kernel_rfl) (by kernel_rfl) (fun _ _ _ h => h) (Or.inr ⟨by rfl, rfl⟩) hS ?_
      simp only [List.getElem_toArray, List.getElem_cons_zero, List.getElem_cons_succ, Act.put, List.setIfInBounds_toArray, List.set_cons_zero, List.set_cons_succ]
      refine wpAnyH_take (i := 12) (v := undef) rfl (by kernel_rfl) (by kernel_rfl) (by kernel_rfl) (fun _ _ _ h => h) (Or.inr ⟨by rfl, rfl⟩) hS ?_
      simp only [List.getElem_toArray, List.getElem_cons_zero, List.getElem_cons_succ, Act.put, List.setIfInBounds_toArray, List.set_cons_zero, List.set_cons_succ]
      refine wpAnyH_take (i := 13) (v := undef) rfl (by kernel_rfl) (by kernel_rfl) (by kernel_rfl) (fun _ _ _ h => h) (Or.inr ⟨by rfl, rfl⟩) hS ?_
      simp only [List.getElem_toArray, List.getElem_cons_zero, List.getElem_cons_succ, Act.put, List.setIfInBounds_toArray, List.set_cons_zero, List.set_cons_succ]
      refine wpAnyH_take (i := 14) (v := undef) rfl (by kernel_rfl) (by kernel_rfl) (by kernel_rfl) (fun _ _ _ h => h) (Or.inr ⟨by rfl, rfl⟩) hS ?_
      simp only [List.getElem_toArray, List.getElem_cons_zero, List.getElem_cons_succ, Act.put, List.setIfInBounds_toArray, List.set_cons_zero, List.set_cons_succ]
      refine wpAnyH_ready (rs := [15]) (by kernel_rfl) (by simp) ?_
      refine AllReadyH.cons rfl (fun K hK => ?_) AllReadyH.nil
      rw [if_pos (by rfl)]
      simp only [List.getElem_toArray, List.getElem_cons_zero, List.getElem_cons_succ]
      go_simp
      refine hK.out _ _ hS (fun hS => ?_)
      refine wpAnyH_done (by kernel_rfl) ?_ _
      clear hS
      go_wp2_with fail
      go_ret
      exact ⟨by rw [HE.out]; first | done | rfl, hB⟩
end Go.Proofs.YtlolkighnnedfaaDoor
/- package ed: Add, Mul, Base, Order by their contracts. (Printed by gen_edpe.py.) -/
set_option linter.unusedVariables false
set_option linter.unusedSimpArgs false
namespace Go.Proofs.YtlolkighnnedfaaDoor
open Go.RowKit Go.Sg
/-- No point. -/
def noPt : Value := .agg #[.slice none 0 0, .slice none 0 0, .bool false]
def PtOk (Q : Pt) (W : World) (e : Ending) (w' : World) : Prop := ∃ v, e = .returned (.tuple #[v, .int .i64 0]) ∧ PtRes W.heap.size w' v Q ∧ Below W.heap.size W w'
def NoPt (c : Int) (W : World) (e : Ending) (w' : World) : Prop := e = .returned (.tuple #[noPt, .int .i64 c]) ∧ Below W.heap.size W w'
theorem PtAt.of {w : World} {vx vy : Value} {P : Pt} (h1 : CanAt w vx P.1.val) (h2 : CanAt w vy P.2.val) : PtAt w (.agg #[vx, vy, .bool false]) P := ⟨_, _, rfl, h1, h2⟩
theorem point_is {va : Value} {a : Sp} {Q : Pt} {w : World} (ha : SpAt w va a) (hi : a.is Q) (tP : TabAt w 0 limbP) : Calls Tryd.prog 57 #[va] w (PtPost Q w) := by
  have h := point_c ha hi.1 tP
  rwa [Sp.pt_is hi] at h

set_option maxHeartbeats 4000000 in
set_option maxRecDepth 20000 in
theorem add_ok {va vb : Value} {P Q : Pt} {w : World} (ha : PtIn w va P.1.val P.2.val false) (hb_ : PtIn w vb Q.1.val Q.2.val false) (oP : OnC P) (oQ : OnC Q) (tP : TabAt w 0 limbP) (tD : TabAt w 3 limbD) :
    Calls Tryd.prog 15 #[va, vb] w (PtOk (eAdd P Q) w) := by
  have HI := Lib.hid (Sp.plus_is (Sp.of_is P) (Sp.of_is Q) oP oQ)
  have O1 := Lib.hid (onB_of oP)
  have O2 := Lib.hid (onB_of oQ)
  clear oP oQ
  obtain ⟨vax, vay, rfl, nax, nay⟩ := ha
  obtain ⟨vbx, vby, rfl, nbx, nby⟩ := hb_
  go_enter Tryd.func15, Tryd.ntmps15
  have hB := Below.refl w.heap.size w
  go_wp2_with (refine wpList_box_agg rfl 29 _ rfl [vax, vay, .bool false] rfl ?_)
  intro w1 hk2 hb
  have hz_ := hB.size
  replace hB := hB.trans (hb.mono hB.size)
  clear hb
  obtain ⟨g2, hg_⟩ : ∃ g, g = w.heap.size := ⟨_, rfl⟩
  rw [← hg_] at hk2 ⊢
  have HG2 : Hid (w.heap.size ≤ g2) := Lib.hid (by rw [hg_]; exact hz_)
  clear hg_ hz_
  go_wp2_with (refine wpList_box_agg rfl 29 _ rfl [vbx, vby, .bool false] rfl ?_)
  intro w2 hk3 hb
  have hz_ := hB.size
  have lt2_ := hk2.lt
  replace hB := hB.trans (hb.mono hB.size)
  replace hk2 := hk2.keep hb
  clear hb
  obtain ⟨g3, hg_⟩ : ∃ g, g = w1.heap.size := ⟨_, rfl⟩
  rw [← hg_] at hk3 ⊢
  have HG3 : Hid (w.heap.size ≤ g3) := Lib.hid (by rw [hg_]; exact hz_)
  have NE2_3 : Hid (g2 ≠ g3) := Lib.hid (by rw [hg_]; exact Nat.ne_of_lt lt2_)
  clear hg_ hz_ lt2_
  go_wp2_with (refine wpList_alloc_agg rfl 29 rfl [(.slice none 0 0), (.slice none 0 0), (.bool false)] 3 (by kernel_rfl) ?_)
  intro w3 hk4 hb
  have hz_ := hB.size
  have lt2_ := hk2.lt
  have lt3_ := hk3.lt
  replace hB := hB.trans (hb.mono hB.size)
  replace hk2 := hk2.keep hb
  replace hk3 := hk3.keep hb
  clear hb
  obtain ⟨g4, hg_⟩ : ∃ g, g = w2.heap.size := ⟨_, rfl⟩
  rw [← hg_] at hk4 ⊢
  have HG4 : Hid (w.heap.size ≤ g4) := Lib.hid (by rw [hg_]; exact hz_)
  have NE2_4 : Hid (g2 ≠ g4) := Lib.hid (by rw [hg_]; exact Nat.ne_of_lt lt2_)
  have NE3_4 : Hid (g3 ≠ g4) := Lib.hid (by rw [hg_]; exact Nat.ne_of_lt lt3_)
  clear hg_ hz_ lt2_ lt3_
  have h_ := on_c (inf := false) ⟨_, _, rfl, nax.below hB, nay.below hB⟩ (tP.below hB) (tD.below hB)
  rw [O1.out] at h_
  go_wp2_with (refine wpList_load_agg rfl 29 _ rfl g2 rfl _ [vax, vay, .bool false] _ hk2 Tryd.underlying29 rfl size_pt ?_)
  refine (h_).mono ?_; rintro e_ w4 ⟨rfl, hb⟩
  replace hB := hB.trans (hb.mono hB.size)
  replace hk2 := hk2.keep hb
  replace hk3 := hk3.keep hb
  replace hk4 := hk4.keep hb
  clear hb h_
  have h_ := on_c (inf := false) ⟨_, _, rfl, nbx.below hB, nby.below hB⟩ (tP.below hB) (tD.below hB)
  rw [O2.out] at h_
  have q0_ := hk3.cell 0 rfl
  have q1_ := hk3.cell 1 rfl
  have q2_ := hk3.cell 2 rfl
  go_wp2_with fail
  refine (h_).mono ?_; rintro e_ w5 ⟨rfl, hb⟩
  clear q0_ q1_ q2_
  replace hB := hB.trans (hb.mono hB.size)
  replace hk2 := hk2.keep hb
  replace hk3 := hk3.keep hb
  replace hk4 := hk4.keep hb
  clear hb h_
  go_wp2_with fail
  refine wp_region_held_drew (S := fun W_ => Rw W_ g2 29 [vax, vay, .bool false] ∧ Rw W_ g3 29 [vbx, vby, .bool false]) (by kernel_rfl) (⟨hk2, hk3⟩) (fun hS => ?_)
  have hb := below_drewN (Below.refl w5.heap.size w5) 1
  obtain ⟨w6, hw_⟩ : ∃ x, x = World.drew w5 := ⟨_, rfl⟩
  rw [show World.drewN w5 1 = w6 from hw_.symm] at hb
  rw [← hw_] at hS ⊢
  clear hw_
  replace hB := hB.trans (hb.mono hB.size)
  replace hk2 := hk2.keep hb
  replace hk3 := hk3.keep hb
  replace hk4 := hk4.keep hb
  clear hb
  refine wpAnyH_take (i := 0) (v := .agg #[vax, vay, .bool false]) rfl (by kernel_rfl) (by kernel_rfl) (by kernel_rfl) (fun _ _ _ h => h) (yieldsIf_load_mid (by rfl) 29 _ rfl g2 0 rfl [vax, vay, .bool false] _ (fun W_ hW_ => Rw.range (hW_.1) 0 _ fun j_ v_ hv_ => by rwa [Nat.zero_add]) Tryd.underlying29 rfl size_pt) hS ?_
  simp only [List.getElem_toArray, List.getElem_cons_zero, List.getElem_cons_succ, Act.put, List.setIfInBounds_toArray, List.set_cons_zero, List.set_cons_succ]
  refine wpAnyH_take (i := 2) (v := .agg #[vbx, vby, .bool false]) rfl (by kernel_rfl) (by kernel_rfl) (by kernel_rfl) (fun _ _ _ h => h) (yieldsIf_load_mid (by rfl) 29 _ rfl g3 0 rfl [vbx, vby, .bool false] _ (fun W_ hW_ => Rw.range (hW_.2) 0 _ fun j_ v_ hv_ => by rwa [Nat.zero_add]) Tryd.underlying29 rfl size_pt) hS ?_
  simp only [List.getElem_toArray, List.getElem_cons_zero, List.getElem_cons_succ, Act.put, List.setIfInBounds_toArray, List.set_cons_zero, List.set_cons_succ]
  refine wpAnyH_ready (rs := [1]) (by kernel_rfl) (by simp) ?_
  refine AllReadyH.cons rfl (fun K hK => ?_) AllReadyH.nil
  rw [if_pos (by rfl)]
  simp only [List.getElem_toArray, List.getElem_cons_zero, List.getElem_cons_succ]
  go_simp
  refine (spotOf_c (P := P) ⟨_, _, rfl, nax.below hB, nay.below hB⟩ (tP.below hB)).mono ?_; rintro e_ w7 ⟨v16, rfl, r16, hb⟩
  dsimp only
  replace r16 := r16.mono (Nat.zero_le _)
  replace hB := hB.trans (hb.mono hB.size)
  replace hk2 := hk2.keep hb
  replace hk3 := hk3.keep hb
  replace hk4 := hk4.keep hb
  clear hb
  refine hK.out _ _ ⟨hk2, hk3⟩ (fun hS => ?_)
  refine wpAnyH_ready (rs := [3]) (by kernel_rfl) (by simp) ?_
  refine AllReadyH.cons rfl (fun K hK => ?_) AllReadyH.nil
  rw [if_pos (by rfl)]
  simp only [List.getElem_toArray, List.getElem_cons_zero, List.getElem_cons_succ]
  go_simp
  refine (spotOf_c (P := Q) ⟨_, _, rfl, nbx.below hB, nby.below hB⟩ (tP.below hB)).mono ?_; rintro e_ w8 ⟨v18, rfl, r18, hb⟩
  dsimp only
  replace r18 := r18.mono (Nat.zero_le _)
  replace hB := hB.trans (hb.mono hB.size)
  replace hk2 := hk2.keep hb
  replace hk3 := hk3.keep hb
  replace hk4 := hk4.keep hb
  replace r16 := r16.below hb
  clear hb
  refine hK.out _ _ ⟨hk2, hk3⟩ (fun hS => ?_)
  refine wpAnyH_ready (rs := [4]) (by kernel_rfl) (by simp) ?_
  refine AllReadyH.cons rfl (fun K hK => ?_) AllReadyH.nil
  rw [if_pos (by rfl)]
  simp only [List.getElem_toArray, List.getElem_cons_zero, List.getElem_cons_succ]
  go_simp
  refine (plus_c r16.at_ r18.at_ (tP.below hB) (tD.below hB)).mono ?_; rintro e_ w9 ⟨v19, rfl, r19, hb⟩
  dsimp only
  replace r19 := r19.mono (Nat.zero_le _)
  replace hB := hB.trans (hb.mono hB.size)
  replace hk2 := hk2.keep hb
  replace hk3 := hk3.keep hb
  replace hk4 := hk4.keep hb
  replace r16 := r16.below hb
  replace r18 := r18.below hb
  clear hb
  refine hK.out _ _ ⟨hk2, hk3⟩ (fun hS => ?_)
  refine wpAnyH_ready (rs := [5]) (by kernel_rfl) (by simp) ?_
  refine AllReadyH.cons rfl (fun K hK => ?_) AllReadyH.nil
  rw [if_pos (by rfl)]
  simp only [List.getElem_toArray, List.getElem_cons_zero, List.getElem_cons_succ]
  go_simp
  refine (point_is r19.at_ HI.out (tP.below hB)).mono ?_; rintro e_ w10 ⟨v20, rfl, hn, hb⟩
  dsimp only
  obtain ⟨v20x, v20y, rfl, r20x, r20y, ap20⟩ := hn.mono (Nat.succ_le_of_lt hk4.lt)
  replace hB := hB.trans (hb.mono hB.size)
  replace hk2 := hk2.keep hb
  replace hk3 := hk3.keep hb
  replace hk4 := hk4.keep hb
  replace r16 := r16.below hb
  replace r18 := r18.below hb
  replace r19 := r19.below hb
  clear hb hn
  refine hK.out _ _ ⟨hk2, hk3⟩ (fun hS => ?_)
  refine wpAnyH_ready (rs := [6]) (by kernel_rfl) (by simp) ?_
  refine AllReadyH.cons rfl (fun K hK => ?_) AllReadyH.nil
  rw [if_pos (by rfl)]
  simp only [List.getElem_toArray, List.getElem_cons_zero, List.getElem_cons_succ]
  refine wp_store_agg 29 _ _ rfl g4 29 [(.slice none 0 0), (.slice none 0 0), (.bool false)] [v20x, v20y, .bool false] rfl rfl hk4 size_pt (by intro v_ hv_; simp only [List.mem_cons, List.not_mem_nil, or_false] at hv_; rcases hv_ with rfl | rfl | rfl <;> first | rfl | exact r20x.fp.one_cell | exact r20y.fp.one_cell) rfl ?_
  intro w11 hn hg
  replace hB := hB.grown hg hB.size (by intro k_ hk_; cases hk_; exact HG4.out)
  replace hk2 := hk2.grown hg (fun e_ => NE2_4.out (Option.some.inj e_))
  replace hk3 := hk3.grown hg (fun e_ => NE3_4.out (Option.some.inj e_))
  replace hk4 := hn
  clear r16
  clear r18
  clear r19
  replace r20x := r20x.past hg
  replace r20y := r20y.past hg
  clear hn hg
  refine hK.out _ _ ⟨hk2, hk3⟩ (fun hS => ?_)
  refine wpAnyH_ready (rs := [7]) (by kernel_rfl) (by simp) ?_
  refine AllReadyH.cons rfl (fun K hK => ?_) AllReadyH.nil
  rw [if_pos (by rfl)]
  simp only [List.getElem_toArray, List.getElem_cons_zero, List.getElem_cons_succ]
  go_simp
  refine hK.out _ _ hS (fun hS => ?_)
  refine wpAnyH_done (by kernel_rfl) ?_ _
  clear hS
  go_wp2_with fail
  refine bodyPost_ret (results_agg_tmp rfl rfl hk4 Tryd.underlying29 rfl size_pt) rfl ?_
  exact ⟨_, rfl, ⟨_, _, rfl, r20x.mono (Nat.le_succ_of_le HG4.out), r20y.mono (Nat.le_succ_of_le HG4.out), ap20⟩, hB⟩
set_option maxHeartbeats 4000000 in
set_option maxRecDepth 20000 in
theorem add_no1 {va vb : Value} {X Y X' Y' : Nat} {i i' : Bool} {w : World} (ha : PtIn w va X Y i) (hb_ : PtIn w vb X' Y' i') (o1 : onB X Y i = false) (tP : TabAt w 0 limbP) (tD : TabAt w 3 limbD) :
    Calls Tryd.prog 15 #[va, vb] w (NoPt 93 w) := by
  have O1 := Lib.hid o1
  clear o1
  obtain ⟨vax, vay, rfl, nax, nay⟩ := ha
  obtain ⟨vbx, vby, rfl, nbx, nby⟩ := hb_
  go_enter Tryd.func15, Tryd.ntmps15
  have hB := Below.refl w.heap.size w
  go_wp2_with (refine wpList_box_agg rfl 29 _ rfl [vax, vay, .bool i] rfl ?_)
  intro w1 hk2 hb
  have hz_ := hB.size
  replace hB := hB.trans (hb.mono hB.size)
  clear hb
  obtain ⟨g2, hg_⟩ : ∃ g, g = w.heap.size := ⟨_, rfl⟩
  rw [← hg_] at hk2 ⊢
  have HG2 : Hid (w.heap.size ≤ g2) := Lib.hid (by rw [hg_]; exact hz_)
  clear hg_ hz_
  go_wp2_with (refine wpList_box_agg rfl 29 _ rfl [vbx, vby, .bool i'] rfl ?_)
  intro w2 hk3 hb
  have hz_ := hB.size
  have lt2_ := hk2.lt
  replace hB := hB.trans (hb.mono hB.size)
  replace hk2 := hk2.keep hb
  clear hb
  obtain ⟨g3, hg_⟩ : ∃ g, g = w1.heap.size := ⟨_, rfl⟩
  rw [← hg_] at hk3 ⊢
  have HG3 : Hid (w.heap.size ≤ g3) := Lib.hid (by rw [hg_]; exact hz_)
  have NE2_3 : Hid (g2 ≠ g3) := Lib.hid (by rw [hg_]; exact Nat.ne_of_lt lt2_)
  clear hg_ hz_ lt2_
  go_wp2_with (refine wpList_alloc_agg rfl 29 rfl [(.slice none 0 0), (.slice none 0 0), (.bool false)] 3 (by kernel_rfl) ?_)
  intro w3 hk4 hb
  have hz_ := hB.size
  have lt2_ := hk2.lt
  have lt3_ := hk3.lt
  replace hB := hB.trans (hb.mono hB.size)
  replace hk2 := hk2.keep hb
  replace hk3 := hk3.keep hb
  clear hb
  obtain ⟨g4, hg_⟩ : ∃ g, g = w2.heap.size := ⟨_, rfl⟩
  rw [← hg_] at hk4 ⊢
  have HG4 : Hid (w.heap.size ≤ g4) := Lib.hid (by rw [hg_]; exact hz_)
  have NE2_4 : Hid (g2 ≠ g4) := Lib.hid (by rw [hg_]; exact Nat.ne_of_lt lt2_)
  have NE3_4 : Hid (g3 ≠ g4) := Lib.hid (by rw [hg_]; exact Nat.ne_of_lt lt3_)
  clear hg_ hz_ lt2_ lt3_
  have h_ := on_c (inf := i) ⟨_, _, rfl, nax.below hB, nay.below hB⟩ (tP.below hB) (tD.below hB)
  rw [O1.out] at h_
  go_wp2_with (refine wpList_load_agg rfl 29 _ rfl g2 rfl _ [vax, vay, .bool i] _ hk2 Tryd.underlying29 rfl size_pt ?_)
  refine (h_).mono ?_; rintro e_ w4 ⟨rfl, hb⟩
  replace hB := hB.trans (hb.mono hB.size)
  replace hk2 := hk2.keep hb
  replace hk3 := hk3.keep hb
  replace hk4 := hk4.keep hb
  clear hb h_
  go_wp2_with (refine wpList_store_agg rfl 29 _ _ rfl g4 29 [(.slice none 0 0), (.slice none 0 0), (.bool false)] [(.slice none 0 0), (.slice none 0 0), (.bool false)] rfl rfl hk4 size_pt (by intro v_ hv_; simp only [List.mem_cons, List.not_mem_nil, or_false] at hv_; rcases hv_ with rfl | rfl | rfl <;> rfl) rfl ?_)
  intro w5 hn hg
  replace hB := hB.grown hg hB.size (by intro k_ hk_; cases hk_; exact HG4.out)
  replace hk2 := hk2.grown hg (fun e_ => NE2_4.out (Option.some.inj e_))
  replace hk3 := hk3.grown hg (fun e_ => NE3_4.out (Option.some.inj e_))
  replace hk4 := hn
  clear hn hg
  go_wp2_with fail
  refine bodyPost_ret (results_agg_tmp rfl rfl hk4 Tryd.underlying29 rfl size_pt) rfl ?_
  exact ⟨rfl, hB⟩
set_option maxHeartbeats 4000000 in
set_option maxRecDepth 20000 in
theorem add_no2 {va vb : Value} {X Y X' Y' : Nat} {i i' : Bool} {w : World} (ha : PtIn w va X Y i) (hb_ : PtIn w vb X' Y' i') (o1 : onB X Y i = true) (o2 : onB X' Y' i' = false) (tP : TabAt w 0 limbP) (tD : TabAt w 3 limbD) :
    Calls Tryd.prog 15 #[va, vb] w (NoPt 93 w) := by
  have O1 := Lib.hid o1
  have O2 := Lib.hid o2
  clear o1 o2
  obtain ⟨vax, vay, rfl, nax, nay⟩ := ha
  obtain ⟨vbx, vby, rfl, nbx, nby⟩ := hb_
  go_enter Tryd.func15, Tryd.ntmps15
  have hB := Below.refl w.heap.size w
  go_wp2_with (refine wpList_box_agg rfl 29 _ rfl [vax, vay, .bool i] rfl ?_)
  intro w1 hk2 hb
  have hz_ := hB.size
  replace hB := hB.trans (hb.mono hB.size)
  clear hb
  obtain ⟨g2, hg_⟩ : ∃ g, g = w.heap.size := ⟨_, rfl⟩
  rw [← hg_] at hk2 ⊢
  have HG2 : Hid (w.heap.size ≤ g2) := Lib.hid (by rw [hg_]; exact hz_)
  clear hg_ hz_
  go_wp2_with (refine wpList_box_agg rfl 29 _ rfl [vbx, vby, .bool i'] rfl ?_)
  intro w2 hk3 hb
  have hz_ := hB.size
  have lt2_ := hk2.lt
  replace hB := hB.trans (hb.mono hB.size)
  replace hk2 := hk2.keep hb
  clear hb
  obtain ⟨g3, hg_⟩ : ∃ g, g = w1.heap.size := ⟨_, rfl⟩
  rw [← hg_] at hk3 ⊢
  have HG3 : Hid (w.heap.size ≤ g3) := Lib.hid (by rw [hg_]; exact hz_)
  have NE2_3 : Hid (g2 ≠ g3) := Lib.hid (by rw [hg_]; exact Nat.ne_of_lt lt2_)
  clear hg_ hz_ lt2_
  go_wp2_with (refine wpList_alloc_agg rfl 29 rfl [(.slice none 0 0), (.slice none 0 0), (.bool false)] 3 (by kernel_rfl) ?_)
  intro w3 hk4 hb
  have hz_ := hB.size
  have lt2_ := hk2.lt
  have lt3_ := hk3.lt
  replace hB := hB.trans (hb.mono hB.size)
  replace hk2 := hk2.keep hb
  replace hk3 := hk3.keep hb
  clear hb
  obtain ⟨g4, hg_⟩ : ∃ g, g = w2.heap.size := ⟨_, rfl⟩
  rw [← hg_] at hk4 ⊢
  have HG4 : Hid (w.heap.size ≤ g4) := Lib.hid (by rw [hg_]; exact hz_)
  have NE2_4 : Hid (g2 ≠ g4) := Lib.hid (by rw [hg_]; exact Nat.ne_of_lt lt2_)
  have NE3_4 : Hid (g3 ≠ g4) := Lib.hid (by rw [hg_]; exact Nat.ne_of_lt lt3_)
  clear hg_ hz_ lt2_ lt3_
  have h_ := on_c (inf := i) ⟨_, _, rfl, nax.below hB, nay.below hB⟩ (tP.below hB) (tD.below hB)
  rw [O1.out] at h_
  go_wp2_with (refine wpList_load_agg rfl 29 _ rfl g2 rfl _ [vax, vay, .bool i] _ hk2 Tryd.underlying29 rfl size_pt ?_)
  refine (h_).mono ?_; rintro e_ w4 ⟨rfl, hb⟩
  replace hB := hB.trans (hb.mono hB.size)
  replace hk2 := hk2.keep hb
  replace hk3 := hk3.keep hb
  replace hk4 := hk4.keep hb
  clear hb h_
  have h_ := on_c (inf := i') ⟨_, _, rfl, nbx.below hB, nby.below hB⟩ (tP.below hB) (tD.below hB)
  rw [O2.out] at h_
  have q0_ := hk3.cell 0 rfl
  have q1_ := hk3.cell 1 rfl
  have q2_ := hk3.cell 2 rfl
  go_wp2_with fail
  refine (h_).mono ?_; rintro e_ w5 ⟨rfl, hb⟩
  clear q0_ q1_ q2_
  replace hB := hB.trans (hb.mono hB.size)
  replace hk2 := hk2.keep hb
  replace hk3 := hk3.keep hb
  replace hk4 := hk4.keep hb
  clear hb h_
  go_wp2_with (refine wpList_store_agg rfl 29 _ _ rfl g4 29 [(.slice none 0 0), (.slice none 0 0), (.bool false)] [(.slice none 0 0), (.slice none 0 0), (.bool false)] rfl rfl hk4 size_pt (by intro v_ hv_; simp only [List.mem_cons, List.not_mem_nil, or_false] at hv_; rcases hv_ with rfl | rfl | rfl <;> rfl) rfl ?_)
  intro w6 hn hg
  replace hB := hB.grown hg hB.size (by intro k_ hk_; cases hk_; exact HG4.out)
  replace hk2 := hk2.grown hg (fun e_ => NE2_4.out (Option.some.inj e_))
  replace hk3 := hk3.grown hg (fun e_ => NE3_4.out (Option.some.inj e_))
  replace hk4 := hn
  clear hn hg
  go_wp2_with fail
  refine bodyPost_ret (results_agg_tmp rfl rfl hk4 Tryd.underlying29 rfl size_pt) rfl ?_
  exact ⟨rfl, hB⟩
set_option maxHeartbeats 4000000 in
set_option maxRecDepth 20000 in
theorem mul_ok {vk va : Value} {k : Nat} {P : Pt} {w : World} (nk : NumAt w vk k) (ha : PtIn w va P.1.val P.2.val false) (oP : OnC P) (hk : bl k ≤ 1024) (tP : TabAt w 0 limbP) (tD : TabAt w 3 limbD) :
    Calls Tryd.prog 16 #[vk, va] w (PtOk (eMul k P) w) := by
  have O1 := Lib.hid (onB_of oP)
  have OP := Lib.hid oP
  obtain ⟨bk, hbk⟩ : ∃ b, b = bl k := ⟨_, rfl⟩
  have hdk : decide ((1024 : Int) < (bk : Int)) = false := decide_eq_false (by omega)
  have HBL := Lib.hid hbk
  clear oP hk hbk
  obtain ⟨vax, vay, rfl, nax, nay⟩ := ha
  go_enter Tryd.func16, Tryd.ntmps16
  have hB := Below.refl w.heap.size w
  go_wp2_with (refine wpList_box_agg rfl 29 _ rfl [vax, vay, .bool false] rfl ?_)
  intro w1 hk3 hb
  have hz_ := hB.size
  replace hB := hB.trans (hb.mono hB.size)
  clear hb
  obtain ⟨g3, hg_⟩ : ∃ g, g = w.heap.size := ⟨_, rfl⟩
  rw [← hg_] at hk3 ⊢
  have HG3 : Hid (w.heap.size ≤ g3) := Lib.hid (by rw [hg_]; exact hz_)
  clear hg_ hz_
  go_wp2_with (refine wpList_alloc_agg rfl 29 rfl [(.slice none 0 0), (.slice none 0 0), (.bool false)] 3 (by kernel_rfl) ?_)
  intro w2 hk4 hb
  have hz_ := hB.size
  have lt3_ := hk3.lt
  replace hB := hB.trans (hb.mono hB.size)
  replace hk3 := hk3.keep hb
  clear hb
  obtain ⟨g4, hg_⟩ : ∃ g, g = w1.heap.size := ⟨_, rfl⟩
  rw [← hg_] at hk4 ⊢
  have HG4 : Hid (w.heap.size ≤ g4) := Lib.hid (by rw [hg_]; exact hz_)
  have NE3_4 : Hid (g3 ≠ g4) := Lib.hid (by rw [hg_]; exact Nat.ne_of_lt lt3_)
  clear hg_ hz_ lt3_
  have h_ := on_c (inf := false) ⟨_, _, rfl, nax.below hB, nay.below hB⟩ (tP.below hB) (tD.below hB)
  rw [O1.out] at h_
  go_wp2_with (refine wpList_load_agg rfl 29 _ rfl g3 rfl _ [vax, vay, .bool false] _ hk3 Tryd.underlying29 rfl size_pt ?_)
  refine (h_).mono ?_; rintro e_ w3 ⟨rfl, hb⟩
  replace hB := hB.trans (hb.mono hB.size)
  replace hk3 := hk3.keep hb
  replace hk4 := hk4.keep hb
  clear hb h_
  have h_ := bits_v (nk.below hB)
  rw [← HBL.out] at h_
  go_wp2_with fail
  refine (h_).mono ?_; rintro e_ w4 ⟨rfl, rfl⟩
  go_wp2_with (refine wpList_load_agg rfl 29 _ rfl g3 rfl _ [vax, vay, .bool false] _ hk3 Tryd.underlying29 rfl size_pt ?_)
  refine (spotOf_c (P := P) ⟨_, _, rfl, nax.below hB, nay.below hB⟩ (tP.below hB)).mono ?_; rintro e_ w4 ⟨v15, rfl, r15, hb⟩
  replace r15 := r15.mono (Nat.zero_le _)
  replace hB := hB.trans (hb.mono hB.size)
  replace hk3 := hk3.keep hb
  replace hk4 := hk4.keep hb
  clear hb
  go_wp2_with fail
  refine (times_c r15.at_ (Sp.of_is P) OP.out (nk.below hB) (tP.below hB) (tD.below hB)).mono ?_; rintro e_ w5 ⟨v17, sp, rfl, r17, his, hb⟩
  have HI := Lib.hid his
  clear his
  replace r17 := r17.mono (Nat.zero_le _)
  replace hB := hB.trans (hb.mono hB.size)
  replace hk3 := hk3.keep hb
  replace hk4 := hk4.keep hb
  replace r15 := r15.below hb
  clear hb
  go_wp2_with fail
  refine (point_is r17.at_ HI.out (tP.below hB)).mono ?_; rintro e_ w6 ⟨v18, rfl, hn, hb⟩
  obtain ⟨v18x, v18y, rfl, r18x, r18y, ap18⟩ := hn.mono (Nat.succ_le_of_lt hk4.lt)
  replace hB := hB.trans (hb.mono hB.size)
  replace hk3 := hk3.keep hb
  replace hk4 := hk4.keep hb
  replace r15 := r15.below hb
  replace r17 := r17.below hb
  clear hb hn
  go_wp2_with (refine wpList_store_agg rfl 29 _ _ rfl g4 29 [(.slice none 0 0), (.slice none 0 0), (.bool false)] [v18x, v18y, .bool false] rfl rfl hk4 size_pt (by intro v_ hv_; simp only [List.mem_cons, List.not_mem_nil, or_false] at hv_; rcases hv_ with rfl | rfl | rfl <;> first | rfl | exact r18x.fp.one_cell | exact r18y.fp.one_cell) rfl ?_)
  intro w7 hn hg
  replace hB := hB.grown hg hB.size (by intro k_ hk_; cases hk_; exact HG4.out)
  replace hk3 := hk3.grown hg (fun e_ => NE3_4.out (Option.some.inj e_))
  replace hk4 := hn
  clear r15
  clear r17
  replace r18x := r18x.past hg
  replace r18y := r18y.past hg
  clear hn hg
  go_wp2_with fail
  refine bodyPost_ret (results_agg_tmp rfl rfl hk4 Tryd.underlying29 rfl size_pt) rfl ?_
  exact ⟨_, rfl, ⟨_, _, rfl, r18x.mono (Nat.le_succ_of_le HG4.out), r18y.mono (Nat.le_succ_of_le HG4.out), ap18⟩, hB⟩
set_option maxHeartbeats 4000000 in
set_option maxRecDepth 20000 in
theorem mul_large {vk va : Value} {k : Nat} {P : Pt} {w : World} (nk : NumAt w vk k) (ha : PtIn w va P.1.val P.2.val false) (oP : OnC P) (hk : ¬ bl k ≤ 1024) (tP : TabAt w 0 limbP) (tD : TabAt w 3 limbD) :
    Calls Tryd.prog 16 #[vk, va] w (NoPt 10 w) := by
  have O1 := Lib.hid (onB_of oP)
  have OP := Lib.hid oP
  obtain ⟨bk, hbk⟩ : ∃ b, b = bl k := ⟨_, rfl⟩
  have hdk : decide ((1024 : Int) < (bk : Int)) = true := decide_eq_true (by omega)
  have HBL := Lib.hid hbk
  clear oP hk hbk
  obtain ⟨vax, vay, rfl, nax, nay⟩ := ha
  go_enter Tryd.func16, Tryd.ntmps16
  have hB := Below.refl w.heap.size w
  go_wp2_with (refine wpList_box_agg rfl 29 _ rfl [vax, vay, .bool false] rfl ?_)
  intro w1 hk3 hb
  have hz_ := hB.size
  replace hB := hB.trans (hb.mono hB.size)
  clear hb
  obtain ⟨g3, hg_⟩ : ∃ g, g = w.heap.size := ⟨_, rfl⟩
  rw [← hg_] at hk3 ⊢
  have HG3 : Hid (w.heap.size ≤ g3) := Lib.hid (by rw [hg_]; exact hz_)
  clear hg_ hz_
  go_wp2_with (refine wpList_alloc_agg rfl 29 rfl [(.slice none 0 0), (.slice none 0 0), (.bool false)] 3 (by kernel_rfl) ?_)
  intro w2 hk4 hb
  have hz_ := hB.size
  have lt3_ := hk3.lt
  replace hB := hB.trans (hb.mono hB.size)
  replace hk3 := hk3.keep hb
  clear hb
  obtain ⟨g4, hg_⟩ : ∃ g, g = w1.heap.size := ⟨_, rfl⟩
  rw [← hg_] at hk4 ⊢
  have HG4 : Hid (w.heap.size ≤ g4) := Lib.hid (by rw [hg_]; exact hz_)
  have NE3_4 : Hid (g3 ≠ g4) := Lib.hid (by rw [hg_]; exact Nat.ne_of_lt lt3_)
  clear hg_ hz_ lt3_
  have h_ := on_c (inf := false) ⟨_, _, rfl, nax.below hB, nay.below hB⟩ (tP.below hB) (tD.below hB)
  rw [O1.out] at h_
  go_wp2_with (refine wpList_load_agg rfl 29 _ rfl g3 rfl _ [vax, vay, .bool false] _ hk3 Tryd.underlying29 rfl size_pt ?_)
  refine (h_).mono ?_; rintro e_ w3 ⟨rfl, hb⟩
  replace hB := hB.trans (hb.mono hB.size)
  replace hk3 := hk3.keep hb
  replace hk4 := hk4.keep hb
  clear hb h_
  have h_ := bits_v (nk.below hB)
  rw [← HBL.out] at h_
  go_wp2_with fail
  refine (h_).mono ?_; rintro e_ w4 ⟨rfl, rfl⟩
  go_wp2_with (refine wpList_store_agg rfl 29 _ _ rfl g4 29 [(.slice none 0 0), (.slice none 0 0), (.bool false)] [(.slice none 0 0), (.slice none 0 0), (.bool false)] rfl rfl hk4 size_pt (by intro v_ hv_; simp only [List.mem_cons, List.not_mem_nil, or_false] at hv_; rcases hv_ with rfl | rfl | rfl <;> rfl) rfl ?_)
  intro w4 hn hg
  replace hB := hB.grown hg hB.size (by intro k_ hk_; cases hk_; exact HG4.out)
  replace hk3 := hk3.grown hg (fun e_ => NE3_4.out (Option.some.inj e_))
  replace hk4 := hn
  clear hn hg
  go_wp2_with fail
  refine bodyPost_ret (results_agg_tmp rfl rfl hk4 Tryd.underlying29 rfl size_pt) rfl ?_
  exact ⟨rfl, hB⟩
set_option maxHeartbeats 4000000 in
set_option maxRecDepth 20000 in
theorem mul_no {vk va : Value} {k X Y : Nat} {i : Bool} {w : World} (nk : NumAt w vk k) (ha : PtIn w va X Y i) (o1 : onB X Y i = false) (tP : TabAt w 0 limbP) (tD : TabAt w 3 limbD) :
    Calls Tryd.prog 16 #[vk, va] w (NoPt 93 w) := by
  have O1 := Lib.hid o1
  clear o1
  obtain ⟨vax, vay, rfl, nax, nay⟩ := ha
  go_enter Tryd.func16, Tryd.ntmps16
  have hB := Below.refl w.heap.size w
  go_wp2_with (refine wpList_box_agg rfl 29 _ rfl [vax, vay, .bool i] rfl ?_)
  intro w1 hk3 hb
  have hz_ := hB.size
  replace hB := hB.trans (hb.mono hB.size)
  clear hb
  obtain ⟨g3, hg_⟩ : ∃ g, g = w.heap.size := ⟨_, rfl⟩
  rw [← hg_] at hk3 ⊢
  have HG3 : Hid (w.heap.size ≤ g3) := Lib.hid (by rw [hg_]; exact hz_)
  clear hg_ hz_
  go_wp2_with (refine wpList_alloc_agg rfl 29 rfl [(.slice none 0 0), (.slice none 0 0), (.bool false)] 3 (by kernel_rfl) ?_)
  intro w2 hk4 hb
  have hz_ := hB.size
  have lt3_ := hk3.lt
  replace hB := hB.trans (hb.mono hB.size)
  replace hk3 := hk3.keep hb
  clear hb
  obtain ⟨g4, hg_⟩ : ∃ g, g = w1.heap.size := ⟨_, rfl⟩
  rw [← hg_] at hk4 ⊢
  have HG4 : Hid (w.heap.size ≤ g4) := Lib.hid (by rw [hg_]; exact hz_)
  have NE3_4 : Hid (g3 ≠ g4) := Lib.hid (by rw [hg_]; exact Nat.ne_of_lt lt3_)
  clear hg_ hz_ lt3_
  have h_ := on_c (inf := i) ⟨_, _, rfl, nax.below hB, nay.below hB⟩ (tP.below hB) (tD.below hB)
  rw [O1.out] at h_
  go_wp2_with (refine wpList_load_agg rfl 29 _ rfl g3 rfl _ [vax, vay, .bool i] _ hk3 Tryd.underlying29 rfl size_pt ?_)
  refine (h_).mono ?_; rintro e_ w3 ⟨rfl, hb⟩
  replace hB := hB.trans (hb.mono hB.size)
  replace hk3 := hk3.keep hb
  replace hk4 := hk4.keep hb
  clear hb h_
  go_wp2_with (refine wpList_store_agg rfl 29 _ _ rfl g4 29 [(.slice none 0 0), (.slice none 0 0), (.bool false)] [(.slice none 0 0), (.slice none 0 0), (.bool false)] rfl rfl hk4 size_pt (by intro v_ hv_; simp only [List.mem_cons, List.not_mem_nil, or_false] at hv_; rcases hv_ with rfl | rfl | rfl <;> rfl) rfl ?_)
  intro w4 hn hg
  replace hB := hB.grown hg hB.size (by intro k_ hk_; cases hk_; exact HG4.out)
  replace hk3 := hk3.grown hg (fun e_ => NE3_4.out (Option.some.inj e_))
  replace hk4 := hn
  clear hn hg
  go_wp2_with fail
  refine bodyPost_ret (results_agg_tmp rfl rfl hk4 Tryd.underlying29 rfl size_pt) rfl ?_
  exact ⟨rfl, hB⟩
end Go.Proofs.YtlolkighnnedfaaDoor
