import Derived.Test.YtlolkighnnedfaaDoorZ37
import Derived.Test.YtlolkighnnedfaaDoorZ38
import Derived.BigRegion
/- signetlaw13.EdBytes by its contract: for arguments of at most 2^20 parts in all: the law answers true, and nothing that was there has turned. (Printed by gen_edbytes.py.) -/
set_option linter.unusedVariables false
set_option linter.unusedSimpArgs false
namespace Go.Proofs.YtlolkighnnedfaaDoor
open Go.RowKit Go.Sg
theorem xor_u32_rng (x y : Int) : 0 ≤ bits .xor .u32 x y ∧ bits .xor .u32 x y ≤ 4294967295 := by
  unfold bits
  simp only [IntKind.wrap_u32']
  omega
theorem xor_u8_rng (x y : Int) : 0 ≤ bits .xor .u8 x y ∧ bits .xor .u8 x y ≤ 255 := by
  unfold bits
  simp only [IntKind.wrap_u8']
  omega
theorem wide_num {w : World} {g : Nat} {xs : List Int} (h : Blk w g .u32 36 (xs ++ mw4)) (u : U32 xs) (hl : xs.length ≤ 17592186044415) : NumAt w (.slice (some ⟨g, 0, none⟩) xs.length (xs.length + 4)) (val xs) := ⟨_, _, xs, rfl, wide_sl h hl, u, rfl, hl⟩
/-- The answer to Decode. -/
def decA (r : Option Pt) : Int × Nat × Nat := match r with
  | some P => ptA P
  | none => noA 93
theorem decA_small (r : Option Pt) : Small (decA r) := by
  cases r with
  | some P => exact small_pt _
  | none => exact small_no _
theorem DecPost.ans {r : Option Pt} {W : World} {e : Ending} {w' : World} (h : DecPost r W e w') : AnsPost (decA r) W e w' := by
  cases r with
  | some P => exact PtOk.ans h
  | none => exact NoPt.ans h
/-- The answer to Encode. -/
def encA (X Y : Nat) (i : Bool) : Int × List Int := match ptOf X Y i with
  | some Q => (0, encB Q)
  | none => (93, [])
def EncAns (r : Int × List Int) (W : World) (e : Ending) (w' : World) : Prop := ∃ a c, e = .returned (.tuple #[.slice a r.2.length c, .int .i64 r.1]) ∧ Sl .u8 w' a c r.2 ∧ Below W.heap.size W w'
theorem EncOk.ans {Q : Pt} {W : World} {e : Ending} {w' : World} (h : EncOk Q W e w') : EncAns (0, encB Q) W e w' := by
  obtain ⟨v, rfl, hn, hb⟩ := h
  obtain ⟨a, c, rfl, hs⟩ := hn.sl
  exact ⟨a, c, rfl, hs, hb⟩
theorem EncNo.ans {W : World} {e : Ending} {w' : World} (h : EncNo W e w') : EncAns (93, []) W e w' := by
  obtain ⟨rfl, hb⟩ := h
  obtain ⟨a, c, hv, hs⟩ := (New.nil 0 .u8 0 w').sl
  simp only [Value.slice.injEq] at hv
  obtain ⟨rfl, -, rfl⟩ := hv
  exact ⟨_, _, rfl, hs, hb⟩
section
variable {va : Value} {X Y : Nat} {i : Bool} {w : World}
theorem enc_any (ha : PtIn w va X Y i) (tP : TabAt w 0 limbP) (tD : TabAt w 3 limbD) : Calls Tryd.prog 17 #[va] w (EncAns (encA X Y i) w) := by
  unfold encA
  cases h1 : ptOf X Y i with
  | none => exact (enc_no ha (onB_none h1) tP tD).mono fun e w' h => h.ans
  | some P =>
    obtain ⟨rfl, rfl, rfl, o1⟩ := ptOf_some h1
    exact (enc_ok ha o1 tP tD).mono fun e w' h => h.ans
theorem renc_any (ha : PtIn w va X Y i) : Calls Tryd.prog 39 #[va] w (EncAns (encA X Y i) w) := by
  unfold encA
  cases h1 : ptOf X Y i with
  | none => exact (renc_no ha (onB_none h1)).mono fun e w' h => h.ans
  | some P =>
    obtain ⟨rfl, rfl, rfl, o1⟩ := ptOf_some h1
    exact (renc_ok ha o1).mono fun e w' h => h.ans
end
theorem rBase_c (w : World) : Calls Tryd.prog 40 #[] w (fun e w' => ∃ v, e = .returned v ∧ PtAt w' v eB ∧ Below w.heap.size w w') := by
  go_enter Tryd.func40, Tryd.ntmps40
  have hB := Below.refl w.heap.size w
  go_wp2_with (refine wpList_alloc_agg rfl 29 rfl [(.slice none 0 0), (.slice none 0 0), (.bool false)] 3 (by kernel_rfl) ?_)
  intro w1 hk0 hb
  have hz_ := hB.size
  replace hB := hB.trans (hb.mono hB.size)
  clear hb
  obtain ⟨g0, hg_⟩ : ∃ g, g = w.heap.size := ⟨_, rfl⟩
  rw [← hg_] at hk0 ⊢
  have HG0 : Hid (w.heap.size ≤ g0) := Lib.hid (by rw [hg_]; exact hz_)
  clear hg_ hz_
  have hkA : Rw (w1.alloc (.cells (limbX.map (Value.int .u32)).toArray 36)) w1.heap.size 36 (limbX.map (Value.int .u32)) := Rw.new _ _ _
  obtain ⟨wA, hwA⟩ : ∃ x, x = w1.alloc (.cells (limbX.map (Value.int .u32)).toArray 36) := ⟨_, rfl⟩
  have hbA : Below w1.heap.size w1 wA := by rw [hwA]; exact (Below.refl _ _).alloc (Nat.le_refl _) _
  rw [← hwA] at hkA
  have hkC : Rw (wA.alloc (.cells (limbY.map (Value.int .u32)).toArray 36)) wA.heap.size 36 (limbY.map (Value.int .u32)) := Rw.new _ _ _
  have hbC : Below wA.heap.size wA (wA.alloc (.cells (limbY.map (Value.int .u32)).toArray 36)) := (Below.refl _ _).alloc (Nat.le_refl _) _
  have hkA' := hkA.keep hbC
  have lt0 := hk0.lt
  have rX := NatRes.row8 hkA' (B := g0 + 1) (by omega) lim8_X
  have rY := NatRes.row8 hkC (B := g0 + 1) (by have := hbA.size; omega) lim8_Y
  have hk0' := (hk0.keep hbA).keep hbC
  have hB' := (hB.trans (hbA.mono hB.size)).trans (hbC.mono (Nat.le_trans hB.size hbA.size))
  subst hwA
  clear hkA hkC hkA' hbA hbC hk0 hB lt0
  go_wp2_with (refine wpList_store_agg rfl 29 _ _ rfl g0 29 [(.slice none 0 0), (.slice none 0 0), (.bool false)] [_, _, (.bool false)] rfl rfl hk0' size_pt (by intro v_ hv_; simp only [List.mem_cons, List.not_mem_nil, or_false] at hv_; rcases hv_ with rfl | rfl | rfl <;> rfl) rfl ?_)
  intro wz hn hg
  have hBz := hB'.grown hg hB'.size (by intro k_ hk_; cases hk_; exact HG0.out)
  have rX' := rX.past hg
  have rY' := rY.past hg
  clear rX rY hB' hk0' hg
  have e1 : (World.alloc w1 (.cells (limbX.map (Value.int .u32)).toArray 36)).heap.size = w1.heap.size + 1 := Array.size_push ..
  rw [e1] at rY'
  go_wp2_with fail
  refine bodyPost_ret (results_agg rfl rfl hn Tryd.underlying29 rfl size_pt) rfl ?_
  exact ⟨_, rfl, ⟨_, _, rfl, rX'.fp, rY'.fp⟩, hBz⟩
set_option maxHeartbeats 4000000 in
set_option maxRecDepth 20000 in
theorem EdBytes_c {ab apx apy : Option Addr} {cb cpx cpy : Nat} {xs px py : List Int} {ip : Bool} {w : World} (sb : Sl .u8 w ab cb xs) (spx : Sl .u32 w apx cpx px) (spy : Sl .u32 w apy cpy py) (ub : U8 xs) (upx : U32 px) (upy : U32 py) (hz : xs.length + px.length + py.length ≤ 1048576) (tP : TabAt w 0 limbP) (tD : TabAt w 3 limbD) (tI : TabAt w 4 limbI) (tL : TabAt w 2 limbL) (tB : BaseT w 1) :
    Calls Tryd.prog 6 #[.slice ab xs.length cb, .agg #[.slice apx px.length cpx, .slice apy py.length cpy, .bool ip]] w (fun e w' => e = .returned (.bool true) ∧ Below w.heap.size w w') := by
  have lb : xs.length ≤ 140737488350000 := by omega
  have lpx : px.length ≤ 17592186044415 := by omega
  have lpy : py.length ≤ 17592186044415 := by omega
  have nP : PtIn w (.agg #[.slice apx px.length cpx, .slice apy py.length cpy, .bool ip]) (val px) (val py) ip := ⟨_, _, rfl, ⟨_, _, px, rfl, spx, upx, rfl, lpx⟩, ⟨_, _, py, rfl, spy, upy, rfl, lpy⟩⟩
  have rm := fun W (h : Sl .u8 W ab cb xs) => roomy13_c ab cb xs W h lb
  have sp := fun g W (k : Blk W g .u8 5 (xs ++ mb9)) (h : Sl .u8 W ab cb xs) => spared13_c g ab cb xs W k h lb
  have db := fun W (h : Sl .u8 W ab cb xs) => (rDecode_c h ub lb).mono fun e w' h => h.ans
  have dg := fun g W (k : Blk W g .u8 5 (xs ++ mb9)) t1 t2 t3 => (Decode_c (room_sl k lb) ub lb t1 t2 t3).mono fun e w' h => h.ans
  have rdg := fun g W (k : Blk W g .u8 5 (xs ++ mb9)) => (rDecode_c (room_sl k lb) ub lb).mono fun e w' h => h.ans
  have dg2 := fun g y W (hy : 0 ≤ y ∧ y ≤ 255) (k : Blk W g .u8 5 (xs.set 0 y ++ mb9)) t1 t2 t3 => (Decode_c (room_sl k (by rw [List.length_set]; exact lb)) (ub.set 0 hy.1 hy.2) (by rw [List.length_set]; exact lb) t1 t2 t3).mono fun e w' h => h.ans
  have rdg2 := fun g y W (hy : 0 ≤ y ∧ y ≤ 255) (k : Blk W g .u8 5 (xs.set 0 y ++ mb9)) => (rDecode_c (room_sl k (by rw [List.length_set]; exact lb)) (ub.set 0 hy.1 hy.2) (by rw [List.length_set]; exact lb)).mono fun e w' h => h.ans
  have twp := fun W (h : Sl .u32 W apx cpx px) (h' : Sl .u32 W apy cpy py) => twin_c (inf := ip) h h' lpx lpy
  have stp := fun g g' W (k : Blk W g .u32 36 (px ++ mw4)) (k' : Blk W g' .u32 36 (py ++ mw4)) (h : Sl .u32 W apx cpx px) (h' : Sl .u32 W apy cpy py) => still_c13 (inf := ip) k k' h h' lpx lpy
  unfold Room13 at rm
  unfold TwinPost at twp
  simp only [List.length_set] at dg2 rdg2
  have nu_px := fun g W (h : Blk W g .u32 36 (px ++ mw4)) => wide_num h upx lpx
  have nu_py := fun g W (h : Blk W g .u32 36 (py ++ mw4)) => wide_num h upy lpy
  have nu_px2 := fun g y W (hy : 0 ≤ y ∧ y ≤ 4294967295) (h : Blk W g .u32 36 (px.set 0 y ++ mw4)) => wide_num h (upx.set 0 hy.1 hy.2) (by rw [List.length_set]; exact lpx)
  simp only [List.length_set] at nu_px2
  obtain ⟨mb, hmb⟩ : ∃ n, n = xs.length := ⟨_, rfl⟩
  obtain ⟨mpx, hmpx⟩ : ∃ n, n = px.length := ⟨_, rfl⟩
  obtain ⟨mpy, hmpy⟩ : ∃ n, n = py.length := ⟨_, rfl⟩
  rw [← hmb] at rm sp db dg rdg dg2 rdg2 ⊢
  rw [← hmpx] at nP twp stp nu_px nu_px2 ⊢
  rw [← hmpy] at nP twp stp nu_py ⊢
  have HMb := Lib.hid hmb
  have HMpx := Lib.hid hmpx
  have HMpy := Lib.hid hmpy
  have bb : mb ≤ 1048576 := by omega
  have bpx : mpx ≤ 1048576 := by omega
  clear hz hmb lb hmpx lpx hmpy lpy
  obtain ⟨X, hX_⟩ : ∃ X, X = val px := ⟨_, rfl⟩
  obtain ⟨Y, hY_⟩ : ∃ Y, Y = val py := ⟨_, rfl⟩
  rw [← hX_, ← hY_] at nP
  rw [← hX_] at nu_px
  rw [← hY_] at nu_py
  clear hX_ hY_
  go_enter Tryd.func6, Tryd.ntmps6
  have hB := Below.refl w.heap.size w
  go_wp2_with (refine wpList_box_agg rfl 29 _ rfl [(.slice apx mpx cpx), (.slice apy mpy cpy), (.bool ip)] rfl ?_)
  intro w1 hk3 hb
  have hz_ := hB.size
  replace hB := hB.trans (hb.mono hB.size)
  clear hb
  obtain ⟨g3, hg_⟩ : ∃ g, g = w.heap.size := ⟨_, rfl⟩
  rw [← hg_] at hk3 ⊢
  have HG3 : Hid (w.heap.size ≤ g3) := Lib.hid (by rw [hg_]; exact hz_)
  clear hg_ hz_
  go_wp2_with fail
  refine (rm _ (sb.below hB)).mono ?_; rintro e_ w2 ⟨gg, rfl, hge_, kg, hb⟩
  have nb_kg_3 : Hid (gg ≠ g3) := Lib.hid (by have := hk3.lt; have := hge_; omega)
  have HB_kg : Hid (w.heap.size ≤ gg) := Lib.hid (Nat.le_trans hB.size hge_)
  replace hB := hB.trans (hb.mono hB.size)
  replace hk3 := hk3.keep hb
  clear hb hge_
  obtain ⟨A1, hA1_⟩ : ∃ r, r = decA (decB xs) := ⟨_, rfl⟩
  have smA1 : Small A1 := by rw [hA1_]; exact decA_small ..
  have HA1 := Lib.hid hA1_.symm
  clear hA1_
  have h_ := dg gg _ kg (tP.below hB) (tD.below hB) (tI.below hB)
  rw [HA1.out] at h_
  go_wp2_with fail
  refine (h_).mono ?_; rintro e_ w3 ⟨v17, rfl, hn, hb⟩
  obtain ⟨v17x, v17y, rfl, h1_, h2_⟩ := hn
  have off_r17x_3 := NatRes.off_new h1_ hk3.lt
  have off_r17y_3 := NatRes.off_new h2_ hk3.lt
  have r17x := h1_.mono (Nat.zero_le _)
  have r17y := h2_.mono (Nat.zero_le _)
  obtain ⟨av17x, nv17x, pv17x, rfl⟩ := (r17x.can smA1.1 (by omega)).sliced
  obtain ⟨av17y, nv17y, pv17y, rfl⟩ := (r17y.can smA1.2 (by omega)).sliced
  clear h1_ h2_
  replace hB := hB.trans (hb.mono hB.size)
  replace hk3 := hk3.keep hb
  replace kg := kg.keep hb
  clear hb h_
  go_wp2_with (refine wpList_alloc_agg rfl 29 rfl [(.slice none 0 0), (.slice none 0 0), (.bool false)] 3 (by kernel_rfl) ?_)
  intro w4 hk6 hb
  have hz_ := hB.size
  have lt3_ := hk3.lt
  have ltb_kg := kg.lt
  have off_r17x_6 := NatRes.off_old r17x
  have off_r17y_6 := NatRes.off_old r17y
  replace hB := hB.trans (hb.mono hB.size)
  replace hk3 := hk3.keep hb
  replace kg := kg.keep hb
  replace r17x := r17x.below hb
  replace r17y := r17y.below hb
  clear hb
  obtain ⟨g6, hg_⟩ : ∃ g, g = w3.heap.size := ⟨_, rfl⟩
  rw [← hg_] at hk6 off_r17x_6 off_r17y_6 ⊢
  have HG6 : Hid (w.heap.size ≤ g6) := Lib.hid (by rw [hg_]; exact hz_)
  have NE3_6 : Hid (g3 ≠ g6) := Lib.hid (by rw [hg_]; exact Nat.ne_of_lt lt3_)
  have nb_kg_6 : Hid (gg ≠ g6) := Lib.hid (by rw [hg_]; exact Nat.ne_of_lt ltb_kg)
  clear ltb_kg
  clear hg_ hz_ lt3_
  go_wp2_with (refine wpList_store_agg rfl 29 _ _ rfl g6 29 [(.slice none 0 0), (.slice none 0 0), (.bool false)] [(.slice av17x nv17x pv17x), (.slice av17y nv17y pv17y), (.bool false)] rfl rfl hk6 size_pt (by intro v_ hv_; simp only [List.mem_cons, List.not_mem_nil, or_false] at hv_; rcases hv_ with rfl | rfl | rfl <;> first | rfl | exact (r17x.can smA1.1 (by omega)).one_cell | exact (r17y.can smA1.2 (by omega)).one_cell) rfl ?_)
  intro w5 hn hg
  replace hB := hB.grown hg hB.size (by intro k_ hk_; cases hk_; exact HG6.out)
  replace hk3 := hk3.grown hg (fun e_ => NE3_6.out (Option.some.inj e_))
  replace kg := kg.grown hg (fun e_ => nb_kg_6.out (Option.some.inj e_))
  replace r17x := r17x.off off_r17x_6 hg
  replace r17y := r17y.off off_r17y_6 hg
  replace hk6 := hn
  clear hn hg
  have h_ := db _ (sb.below hB)
  rw [HA1.out] at h_
  go_wp2_with fail
  refine (h_).mono ?_; rintro e_ w6 ⟨v22, rfl, hn, hb⟩
  obtain ⟨v22x, v22y, rfl, h1_, h2_⟩ := hn
  have off_r22x_3 := NatRes.off_new h1_ hk3.lt
  have off_r22x_6 := NatRes.off_new h1_ hk6.lt
  have off_r22y_3 := NatRes.off_new h2_ hk3.lt
  have off_r22y_6 := NatRes.off_new h2_ hk6.lt
  have r22x := h1_.mono (Nat.zero_le _)
  have r22y := h2_.mono (Nat.zero_le _)
  obtain ⟨av22x, nv22x, pv22x, rfl⟩ := (r22x.can smA1.1 (by omega)).sliced
  obtain ⟨av22y, nv22y, pv22y, rfl⟩ := (r22y.can smA1.2 (by omega)).sliced
  clear h1_ h2_
  replace hB := hB.trans (hb.mono hB.size)
  replace hk3 := hk3.keep hb
  replace kg := kg.keep hb
  replace r17x := r17x.below hb
  replace r17y := r17y.below hb
  replace hk6 := hk6.keep hb
  clear hb h_
  go_wp2_with (refine wpList_alloc_agg rfl 29 rfl [(.slice none 0 0), (.slice none 0 0), (.bool false)] 3 (by kernel_rfl) ?_)
  intro w7 hk8 hb
  have hz_ := hB.size
  have lt3_ := hk3.lt
  have lt6_ := hk6.lt
  have ltb_kg := kg.lt
  have off_r17x_8 := NatRes.off_old r17x
  have off_r17y_8 := NatRes.off_old r17y
  have off_r22x_8 := NatRes.off_old r22x
  have off_r22y_8 := NatRes.off_old r22y
  replace hB := hB.trans (hb.mono hB.size)
  replace hk3 := hk3.keep hb
  replace kg := kg.keep hb
  replace r17x := r17x.below hb
  replace r17y := r17y.below hb
  replace hk6 := hk6.keep hb
  replace r22x := r22x.below hb
  replace r22y := r22y.below hb
  clear hb
  obtain ⟨g8, hg_⟩ : ∃ g, g = w6.heap.size := ⟨_, rfl⟩
  rw [← hg_] at hk8 off_r17x_8 off_r17y_8 off_r22x_8 off_r22y_8 ⊢
  have HG8 : Hid (w.heap.size ≤ g8) := Lib.hid (by rw [hg_]; exact hz_)
  have NE3_8 : Hid (g3 ≠ g8) := Lib.hid (by rw [hg_]; exact Nat.ne_of_lt lt3_)
  have NE6_8 : Hid (g6 ≠ g8) := Lib.hid (by rw [hg_]; exact Nat.ne_of_lt lt6_)
  have nb_kg_8 : Hid (gg ≠ g8) := Lib.hid (by rw [hg_]; exact Nat.ne_of_lt ltb_kg)
  clear ltb_kg
  clear hg_ hz_ lt3_ lt6_
  go_wp2_with (refine wpList_store_agg rfl 29 _ _ rfl g8 29 [(.slice none 0 0), (.slice none 0 0), (.bool false)] [(.slice av22x nv22x pv22x), (.slice av22y nv22y pv22y), (.bool false)] rfl rfl hk8 size_pt (by intro v_ hv_; simp only [List.mem_cons, List.not_mem_nil, or_false] at hv_; rcases hv_ with rfl | rfl | rfl <;> first | rfl | exact (r22x.can smA1.1 (by omega)).one_cell | exact (r22y.can smA1.2 (by omega)).one_cell) rfl ?_)
  intro w8 hn hg
  replace hB := hB.grown hg hB.size (by intro k_ hk_; cases hk_; exact HG8.out)
  replace hk3 := hk3.grown hg (fun e_ => NE3_8.out (Option.some.inj e_))
  replace kg := kg.grown hg (fun e_ => nb_kg_8.out (Option.some.inj e_))
  replace r17x := r17x.off off_r17x_8 hg
  replace r17y := r17y.off off_r17y_8 hg
  replace hk6 := hk6.grown hg (fun e_ => NE6_8.out (Option.some.inj e_))
  replace r22x := r22x.off off_r22x_8 hg
  replace r22y := r22y.off off_r22y_8 hg
  replace hk8 := hn
  clear hn hg
  have hcc_ : (A1.1 != A1.1) = false := by simp
  have hcd_ : (A1.1 == A1.1) = true := by simp
  have h_ := one_c ⟨_, _, rfl, (r17x.can smA1.1 (by omega)), (r17y.can smA1.2 (by omega))⟩ ⟨_, _, rfl, (r22x.can smA1.1 (by omega)), (r22y.can smA1.2 (by omega))⟩
  rw [show decide (A1.2.1 = A1.2.1 ∧ A1.2.2 = A1.2.2) = true from decide_eq_true ⟨rfl, rfl⟩] at h_
  have q0_ := hk6.cell 0 rfl
  have q1_ := hk6.cell 1 rfl
  have q2_ := hk6.cell 2 rfl
  have q3_ := hk8.cell 0 rfl
  have q4_ := hk8.cell 1 rfl
  have q5_ := hk8.cell 2 rfl
  go_wp2_with fail
  refine (h_).mono ?_; rintro e_ w9 ⟨rfl, hb⟩
  clear q0_ q1_ q2_ q3_ q4_ q5_
  replace hB := hB.trans (hb.mono hB.size)
  replace hk3 := hk3.keep hb
  replace kg := kg.keep hb
  replace r17x := r17x.below hb
  replace r17y := r17y.below hb
  replace hk6 := hk6.keep hb
  replace r22x := r22x.below hb
  replace r22y := r22y.below hb
  replace hk8 := hk8.keep hb
  clear hb h_
  go_wp2_with fail
  refine (sp gg _ kg (sb.below hB)).mono ?_; rintro e_ w10 ⟨rfl, hb⟩
  replace hB := hB.trans (hb.mono hB.size)
  replace hk3 := hk3.keep hb
  replace kg := kg.keep hb
  replace r17x := r17x.below hb
  replace r17y := r17y.below hb
  replace hk6 := hk6.keep hb
  replace r22x := r22x.below hb
  replace r22y := r22y.below hb
  replace hk8 := hk8.keep hb
  clear hb
  clear hcc_ hcd_
  clear r17x
  clear r17y
  clear r22x
  clear r22y
  by_cases hk0 : 0 < mb
  · skip
    have hd0 : decide ((0 : Int) < (mb : Int)) = true := decide_eq_true (by omega)
    have hk1_ : (0 : Int) < (mb : Int) := by omega
    have b0 := kg.cell 0 (by rw [List.length_append, ← HMb.out]; omega)
    have bf := kg.free 0
    obtain ⟨x0, hx0⟩ : ∃ x, x = nth (xs ++ mb9) 0 := ⟨_, rfl⟩
    rw [← hx0] at b0
    have xry0 := xor_u8_rng x0 1
    obtain ⟨y0, hy0_⟩ : ∃ y, y = bits .xor .u8 x0 1 := ⟨_, rfl⟩
    rw [← hy0_] at xry0
    have eqs := hy0_.symm
    have ks_ := kg.set 0 y0
    rw [List.set_append_left _ _ (by rw [← HMb.out]; assumption)] at ks_
    clear hx0 hy0_
    obtain ⟨xs2, hxs2⟩ : ∃ k, k = xs.set 0 y0 := ⟨_, rfl⟩
    have dh2 := fun W (h : Blk W gg .u8 5 (xs.set 0 y0 ++ mb9)) => dg2 gg y0 W xry0 h
    have rdh2 := fun W (h : Blk W gg .u8 5 (xs.set 0 y0 ++ mb9)) => rdg2 gg y0 W xry0 h
    rw [← hxs2] at dh2 rdh2 ks_
    clear hxs2 hk0
    replace hB := hB.setCell (p := ⟨gg, 0, none⟩) HB_kg.out (.int .u8 y0)
    replace hk3 := hk3.other (Ne.symm nb_kg_3.out) 0 (.int .u8 y0)
    replace hk6 := hk6.other (Ne.symm nb_kg_6.out) 0 (.int .u8 y0)
    replace hk8 := hk8.other (Ne.symm nb_kg_8.out) 0 (.int .u8 y0)
    replace kg := ks_
    clear ks_
    obtain ⟨A2, hA2_⟩ : ∃ r, r = decA (decB xs2) := ⟨_, rfl⟩
    have smA2 : Small A2 := by rw [hA2_]; exact decA_small ..
    have HA2 := Lib.hid hA2_.symm
    clear hA2_
    have h_ := rdh2 _ kg
    rw [HA2.out] at h_
    go_wp2_with fail
    refine (h_).mono ?_; rintro e_ w11 ⟨v51, rfl, hn, hb⟩
    obtain ⟨v51x, v51y, rfl, h1_, h2_⟩ := hn
    have off_r51x_3 := NatRes.off_new h1_ hk3.lt
    have off_r51x_6 := NatRes.off_new h1_ hk6.lt
    have off_r51x_8 := NatRes.off_new h1_ hk8.lt
    have off_r51y_3 := NatRes.off_new h2_ hk3.lt
    have off_r51y_6 := NatRes.off_new h2_ hk6.lt
    have off_r51y_8 := NatRes.off_new h2_ hk8.lt
    have r51x := h1_.mono (Nat.zero_le _)
    have r51y := h2_.mono (Nat.zero_le _)
    obtain ⟨av51x, nv51x, pv51x, rfl⟩ := (r51x.can smA2.1 (by omega)).sliced
    obtain ⟨av51y, nv51y, pv51y, rfl⟩ := (r51y.can smA2.2 (by omega)).sliced
    clear h1_ h2_
    replace hB := hB.trans (hb.mono hB.size)
    replace hk3 := hk3.keep hb
    replace kg := kg.keep hb
    replace hk6 := hk6.keep hb
    replace hk8 := hk8.keep hb
    clear hb h_
    go_wp2_with (refine wpList_store_agg rfl 29 _ _ rfl g8 29 [(.slice av22x nv22x pv22x), (.slice av22y nv22y pv22y), (.bool false)] [(.slice av51x nv51x pv51x), (.slice av51y nv51y pv51y), (.bool false)] rfl rfl hk8 size_pt (by intro v_ hv_; simp only [List.mem_cons, List.not_mem_nil, or_false] at hv_; rcases hv_ with rfl | rfl | rfl <;> first | rfl | exact (r51x.can smA2.1 (by omega)).one_cell | exact (r51y.can smA2.2 (by omega)).one_cell) rfl ?_)
    intro w12 hn hg
    replace hB := hB.grown hg hB.size (by intro k_ hk_; cases hk_; exact HG8.out)
    replace hk3 := hk3.grown hg (fun e_ => NE3_8.out (Option.some.inj e_))
    replace kg := kg.grown hg (fun e_ => nb_kg_8.out (Option.some.inj e_))
    replace hk6 := hk6.grown hg (fun e_ => NE6_8.out (Option.some.inj e_))
    replace hk8 := hn
    replace r51x := r51x.off off_r51x_8 hg
    replace r51y := r51y.off off_r51y_8 hg
    clear hn hg
    have h_ := dh2 _ kg (tP.below hB) (tD.below hB) (tI.below hB)
    rw [HA2.out] at h_
    go_wp2_with fail
    refine (h_).mono ?_; rintro e_ w13 ⟨v56, rfl, hn, hb⟩
    obtain ⟨v56x, v56y, rfl, h1_, h2_⟩ := hn
    have off_r56x_3 := NatRes.off_new h1_ hk3.lt
    have off_r56x_6 := NatRes.off_new h1_ hk6.lt
    have off_r56x_8 := NatRes.off_new h1_ hk8.lt
    have off_r56y_3 := NatRes.off_new h2_ hk3.lt
    have off_r56y_6 := NatRes.off_new h2_ hk6.lt
    have off_r56y_8 := NatRes.off_new h2_ hk8.lt
    have r56x := h1_.mono (Nat.zero_le _)
    have r56y := h2_.mono (Nat.zero_le _)
    obtain ⟨av56x, nv56x, pv56x, rfl⟩ := (r56x.can smA2.1 (by omega)).sliced
    obtain ⟨av56y, nv56y, pv56y, rfl⟩ := (r56y.can smA2.2 (by omega)).sliced
    clear h1_ h2_
    replace hB := hB.trans (hb.mono hB.size)
    replace hk3 := hk3.keep hb
    replace kg := kg.keep hb
    replace hk6 := hk6.keep hb
    replace hk8 := hk8.keep hb
    replace r51x := r51x.below hb
    replace r51y := r51y.below hb
    clear hb h_
    go_wp2_with (refine wpList_store_agg rfl 29 _ _ rfl g6 29 [(.slice av17x nv17x pv17x), (.slice av17y nv17y pv17y), (.bool false)] [(.slice av56x nv56x pv56x), (.slice av56y nv56y pv56y), (.bool false)] rfl rfl hk6 size_pt (by intro v_ hv_; simp only [List.mem_cons, List.not_mem_nil, or_false] at hv_; rcases hv_ with rfl | rfl | rfl <;> first | rfl | exact (r56x.can smA2.1 (by omega)).one_cell | exact (r56y.can smA2.2 (by omega)).one_cell) rfl ?_)
    intro w14 hn hg
    replace hB := hB.grown hg hB.size (by intro k_ hk_; cases hk_; exact HG6.out)
    replace hk3 := hk3.grown hg (fun e_ => NE3_6.out (Option.some.inj e_))
    replace kg := kg.grown hg (fun e_ => nb_kg_6.out (Option.some.inj e_))
    replace hk6 := hn
    replace hk8 := hk8.grown hg (fun e_ => NE6_8.out (Option.some.inj e_).symm)
    replace r51x := r51x.off off_r51x_6 hg
    replace r51y := r51y.off off_r51y_6 hg
    replace r56x := r56x.off off_r56x_6 hg
    replace r56y := r56y.off off_r56y_6 hg
    clear hn hg
    have hcc_ : (A2.1 != A2.1) = false := by simp
    have hcd_ : (A2.1 == A2.1) = true := by simp
    have h_ := one_c ⟨_, _, rfl, (r56x.can smA2.1 (by omega)), (r56y.can smA2.2 (by omega))⟩ ⟨_, _, rfl, (r51x.can smA2.1 (by omega)), (r51y.can smA2.2 (by omega))⟩
    rw [show decide (A2.2.1 = A2.2.1 ∧ A2.2.2 = A2.2.2) = true from decide_eq_true ⟨rfl, rfl⟩] at h_
    have q0_ := hk6.cell 0 rfl
    have q1_ := hk6.cell 1 rfl
    have q2_ := hk6.cell 2 rfl
    have q3_ := hk8.cell 0 rfl
    have q4_ := hk8.cell 1 rfl
    have q5_ := hk8.cell 2 rfl
    go_wp2_with fail
    refine (h_).mono ?_; rintro e_ w15 ⟨rfl, hb⟩
    clear q0_ q1_ q2_ q3_ q4_ q5_
    replace hB := hB.trans (hb.mono hB.size)
    replace hk3 := hk3.keep hb
    replace kg := kg.keep hb
    replace hk6 := hk6.keep hb
    replace hk8 := hk8.keep hb
    replace r51x := r51x.below hb
    replace r51y := r51y.below hb
    replace r56x := r56x.below hb
    replace r56y := r56y.below hb
    clear hb h_
    clear hcc_ hcd_
    clear r51x
    clear r51y
    clear r56x
    clear r56y
    go_wp2_with (refine wpList_load_agg rfl 29 _ rfl g3 rfl _ [(.slice apx mpx cpx), (.slice apy mpy cpy), (.bool ip)] _ hk3 Tryd.underlying29 rfl size_pt ?_)
    refine (twp _ (spx.below hB) (spy.below hB)).mono ?_; rintro e_ w16 ⟨gpx, gpy, rfl, hge_, hxy_, kpx, kpy, hb⟩
    have hge2_ := Nat.le_trans hge_ (Nat.le_of_lt hxy_)
    have nb_kpx_3 : Hid (gpx ≠ g3) := Lib.hid (by have := hk3.lt; have := hge_; omega)
    have nb_kpx_6 : Hid (gpx ≠ g6) := Lib.hid (by have := hk6.lt; have := hge_; omega)
    have nb_kpx_8 : Hid (gpx ≠ g8) := Lib.hid (by have := hk8.lt; have := hge_; omega)
    have nbb_kg_kpx : Hid (gg ≠ gpx) := Lib.hid (by have := kg.lt; have := hge_; omega)
    have HB_kpx : Hid (w.heap.size ≤ gpx) := Lib.hid (Nat.le_trans hB.size hge_)
    have nb_kpy_3 : Hid (gpy ≠ g3) := Lib.hid (by have := hk3.lt; have := hge2_; omega)
    have nb_kpy_6 : Hid (gpy ≠ g6) := Lib.hid (by have := hk6.lt; have := hge2_; omega)
    have nb_kpy_8 : Hid (gpy ≠ g8) := Lib.hid (by have := hk8.lt; have := hge2_; omega)
    have nbb_kg_kpy : Hid (gg ≠ gpy) := Lib.hid (by have := kg.lt; have := hge2_; omega)
    have HB_kpy : Hid (w.heap.size ≤ gpy) := Lib.hid (Nat.le_trans hB.size hge2_)
    have nbb_kpx_kpy : Hid (gpx ≠ gpy) := Lib.hid (Nat.ne_of_lt hxy_)
    replace hB := hB.trans (hb.mono hB.size)
    replace hk3 := hk3.keep hb
    replace kg := kg.keep hb
    replace hk6 := hk6.keep hb
    replace hk8 := hk8.keep hb
    clear hb hge_ hge2_ hxy_
    go_wp2_with (refine wpList_alloc_agg rfl 29 rfl [(.slice none 0 0), (.slice none 0 0), (.bool false)] 3 (by kernel_rfl) ?_)
    intro w17 hk10 hb
    have hz_ := hB.size
    have lt3_ := hk3.lt
    have lt6_ := hk6.lt
    have lt8_ := hk8.lt
    have ltb_kg := kg.lt
    have ltb_kpx := kpx.lt
    have ltb_kpy := kpy.lt
    replace hB := hB.trans (hb.mono hB.size)
    replace hk3 := hk3.keep hb
    replace kg := kg.keep hb
    replace hk6 := hk6.keep hb
    replace hk8 := hk8.keep hb
    replace kpx := kpx.keep hb
    replace kpy := kpy.keep hb
    clear hb
    obtain ⟨g10, hg_⟩ : ∃ g, g = w16.heap.size := ⟨_, rfl⟩
    rw [← hg_] at hk10 ⊢
    have HG10 : Hid (w.heap.size ≤ g10) := Lib.hid (by rw [hg_]; exact hz_)
    have NE3_10 : Hid (g3 ≠ g10) := Lib.hid (by rw [hg_]; exact Nat.ne_of_lt lt3_)
    have NE6_10 : Hid (g6 ≠ g10) := Lib.hid (by rw [hg_]; exact Nat.ne_of_lt lt6_)
    have NE8_10 : Hid (g8 ≠ g10) := Lib.hid (by rw [hg_]; exact Nat.ne_of_lt lt8_)
    have nb_kg_10 : Hid (gg ≠ g10) := Lib.hid (by rw [hg_]; exact Nat.ne_of_lt ltb_kg)
    clear ltb_kg
    have nb_kpx_10 : Hid (gpx ≠ g10) := Lib.hid (by rw [hg_]; exact Nat.ne_of_lt ltb_kpx)
    clear ltb_kpx
    have nb_kpy_10 : Hid (gpy ≠ g10) := Lib.hid (by rw [hg_]; exact Nat.ne_of_lt ltb_kpy)
    clear ltb_kpy
    clear hg_ hz_ lt3_ lt6_ lt8_
    go_wp2_with (refine wpList_store_agg rfl 29 _ _ rfl g10 29 [(.slice none 0 0), (.slice none 0 0), (.bool false)] [(.slice (some ⟨gpx, 0, none⟩) mpx (mpx + 4)), (.slice (some ⟨gpy, 0, none⟩) mpy (mpy + 4)), (.bool ip)] rfl rfl hk10 size_pt (by intro v_ hv_; simp only [List.mem_cons, List.not_mem_nil, or_false] at hv_; rcases hv_ with rfl | rfl | rfl <;> rfl) rfl ?_)
    intro w18 hn hg
    replace hB := hB.grown hg hB.size (by intro k_ hk_; cases hk_; exact HG10.out)
    replace hk3 := hk3.grown hg (fun e_ => NE3_10.out (Option.some.inj e_))
    replace kg := kg.grown hg (fun e_ => nb_kg_10.out (Option.some.inj e_))
    replace hk6 := hk6.grown hg (fun e_ => NE6_10.out (Option.some.inj e_))
    replace hk8 := hk8.grown hg (fun e_ => NE8_10.out (Option.some.inj e_))
    replace kpx := kpx.grown hg (fun e_ => nb_kpx_10.out (Option.some.inj e_))
    replace kpy := kpy.grown hg (fun e_ => nb_kpy_10.out (Option.some.inj e_))
    replace hk10 := hn
    clear hn hg
    obtain ⟨E1, hE1_⟩ : ∃ r, r = encA X Y ip := ⟨_, rfl⟩
    have HE1 := Lib.hid hE1_.symm
    clear hE1_
    have h_ := enc_any (i := ip) ⟨_, _, rfl, nu_px gpx _ kpx, nu_py gpy _ kpy⟩ (tP.below hB) (tD.below hB)
    rw [HE1.out] at h_
    go_wp2_with (refine wpList_load_agg rfl 29 _ rfl g10 rfl _ [(.slice (some ⟨gpx, 0, none⟩) mpx (mpx + 4)), (.slice (some ⟨gpy, 0, none⟩) mpy (mpy + 4)), (.bool ip)] _ hk10 Tryd.underlying29 rfl size_pt ?_)
    refine (h_).mono ?_; rintro e_ w19 ⟨a72, c72, rfl, s72, hb⟩
    replace hB := hB.trans (hb.mono hB.size)
    replace hk3 := hk3.keep hb
    replace kg := kg.keep hb
    replace hk6 := hk6.keep hb
    replace hk8 := hk8.keep hb
    replace kpx := kpx.keep hb
    replace kpy := kpy.keep hb
    replace hk10 := hk10.keep hb
    clear hb h_
    have h_ := renc_any (i := ip) (nP.below hB)
    rw [HE1.out] at h_
    go_wp2_with (refine wpList_load_agg rfl 29 _ rfl g3 rfl _ [(.slice apx mpx cpx), (.slice apy mpy cpy), (.bool ip)] _ hk3 Tryd.underlying29 rfl size_pt ?_)
    refine (h_).mono ?_; rintro e_ w20 ⟨a77, c77, rfl, s77, hb⟩
    replace hB := hB.trans (hb.mono hB.size)
    replace hk3 := hk3.keep hb
    replace kg := kg.keep hb
    replace hk6 := hk6.keep hb
    replace hk8 := hk8.keep hb
    replace kpx := kpx.keep hb
    replace kpy := kpy.keep hb
    replace hk10 := hk10.keep hb
    replace s72 := s72.below hb
    clear hb h_
    have hcc_ : (E1.1 != E1.1) = false := by simp
    have hcd_ : (E1.1 == E1.1) = true := by simp
    have h_ := same13_c _ _ _ _ _ _ _ s72 s77
    rw [show decide (E1.2 = E1.2) = true from decide_eq_true rfl] at h_
    go_wp2_with fail
    refine (h_).mono ?_; rintro e_ w21 ⟨rfl, hd_⟩
    have hb := hd_.b
    replace hB := hB.trans (hb.mono hB.size)
    replace hk3 := hk3.keep hb
    replace kg := kg.keep hb
    replace hk6 := hk6.keep hb
    replace hk8 := hk8.keep hb
    replace kpx := kpx.keep hb
    replace kpy := kpy.keep hb
    replace hk10 := hk10.keep hb
    replace s72 := s72.below hb
    replace s77 := s77.below hb
    clear hb h_ hd_
    have q0_ := hk10.cell 0 rfl
    have q1_ := hk10.cell 1 rfl
    have q2_ := hk10.cell 2 rfl
    have q3_ := hk3.cell 0 rfl
    have q4_ := hk3.cell 1 rfl
    have q5_ := hk3.cell 2 rfl
    go_wp2_with fail
    refine (stp gpx gpy _ kpx kpy (spx.below hB) (spy.below hB)).mono ?_; rintro e_ w22 ⟨rfl, hb⟩
    clear q0_ q1_ q2_ q3_ q4_ q5_
    replace hB := hB.trans (hb.mono hB.size)
    replace hk3 := hk3.keep hb
    replace kg := kg.keep hb
    replace hk6 := hk6.keep hb
    replace hk8 := hk8.keep hb
    replace kpx := kpx.keep hb
    replace kpy := kpy.keep hb
    replace hk10 := hk10.keep hb
    replace s72 := s72.below hb
    replace s77 := s77.below hb
    clear hb
    clear hcc_ hcd_
    clear s72
    clear s77
    by_cases hy0 : 0 < mpx
    · skip
      have hd0 : decide ((0 : Int) < (mpx : Int)) = true := decide_eq_true (by omega)
      have hy1 : (0 : Int) < (mpx : Int) := by omega
      have b0 := kpx.cell 0 (by rw [List.length_append, ← HMpx.out]; omega)
      have bf := kpx.free 0
      obtain ⟨x1, hx0⟩ : ∃ x, x = nth (px ++ mw4) 0 := ⟨_, rfl⟩
      rw [← hx0] at b0
      have xry1 := xor_u32_rng x1 1
      obtain ⟨y1, hy0_⟩ : ∃ y, y = bits .xor .u32 x1 1 := ⟨_, rfl⟩
      rw [← hy0_] at xry1
      have eqs := hy0_.symm
      have ks_ := kpx.set 0 y1
      rw [List.set_append_left _ _ (by rw [← HMpx.out]; assumption)] at ks_
      clear hx0 hy0_
      obtain ⟨X2, hX2⟩ : ∃ y, y = val (px.set 0 y1) := ⟨_, rfl⟩
      have npx2 := fun W (h : Blk W gpx .u32 36 (px.set 0 y1 ++ mw4)) => nu_px2 gpx y1 W xry1 h
      rw [← hX2] at npx2
      clear hX2 hy0
      have q0_ := hk10.cell 0 rfl
      go_wp2_with fail
      go_region
      clear q0_ b0 bf eqs
      replace hB := hB.setCell (p := ⟨gpx, 0, none⟩) HB_kpx.out (.int .u32 y1)
      replace hk3 := hk3.other (Ne.symm nb_kpx_3.out) 0 (.int .u32 y1)
      replace kg := kg.other nbb_kg_kpx.out 0 (.int .u32 y1)
      replace hk6 := hk6.other (Ne.symm nb_kpx_6.out) 0 (.int .u32 y1)
      replace hk8 := hk8.other (Ne.symm nb_kpx_8.out) 0 (.int .u32 y1)
      replace kpy := kpy.other (Ne.symm nbb_kpx_kpy.out) 0 (.int .u32 y1)
      replace hk10 := hk10.other (Ne.symm nb_kpx_10.out) 0 (.int .u32 y1)
      replace kpx := ks_
      clear ks_
      have hb := below_drewN (Below.refl (World.heap (World.setCell w22 ⟨gpx, 0, none⟩ (.int .u32 y1))).size (World.setCell w22 ⟨gpx, 0, none⟩ (.int .u32 y1))) 1
      obtain ⟨w23, hw_⟩ : ∃ x, x = World.drew (World.setCell w22 ⟨gpx, 0, none⟩ (.int .u32 y1)) := ⟨_, rfl⟩
      rw [show World.drewN (World.setCell w22 ⟨gpx, 0, none⟩ (.int .u32 y1)) 1 = w23 from hw_.symm] at hb
      rw [← hw_]
      clear hw_
      replace hB := hB.trans (hb.mono hB.size)
      replace hk3 := hk3.keep hb
      replace kg := kg.keep hb
      replace hk6 := hk6.keep hb
      replace hk8 := hk8.keep hb
      replace kpx := kpx.keep hb
      replace kpy := kpy.keep hb
      replace hk10 := hk10.keep hb
      clear hb
      obtain ⟨E2, hE2_⟩ : ∃ r, r = encA X2 Y ip := ⟨_, rfl⟩
      have HE2 := Lib.hid hE2_.symm
      clear hE2_
      have h_ := renc_any (i := ip) ⟨_, _, rfl, npx2 _ kpx, nu_py gpy _ kpy⟩
      rw [HE2.out] at h_
      go_wp2_with (refine wpList_load_agg rfl 29 _ rfl g10 rfl _ [(.slice (some ⟨gpx, 0, none⟩) mpx (mpx + 4)), (.slice (some ⟨gpy, 0, none⟩) mpy (mpy + 4)), (.bool ip)] _ hk10 Tryd.underlying29 rfl size_pt ?_)
      refine (h_).mono ?_; rintro e_ w24 ⟨a109, c109, rfl, s109, hb⟩
      replace hB := hB.trans (hb.mono hB.size)
      replace hk3 := hk3.keep hb
      replace kg := kg.keep hb
      replace hk6 := hk6.keep hb
      replace hk8 := hk8.keep hb
      replace kpx := kpx.keep hb
      replace kpy := kpy.keep hb
      replace hk10 := hk10.keep hb
      clear hb h_
      have h_ := enc_any (i := ip) ⟨_, _, rfl, npx2 _ kpx, nu_py gpy _ kpy⟩ (tP.below hB) (tD.below hB)
      rw [HE2.out] at h_
      go_wp2_with (refine wpList_load_agg rfl 29 _ rfl g10 rfl _ [(.slice (some ⟨gpx, 0, none⟩) mpx (mpx + 4)), (.slice (some ⟨gpy, 0, none⟩) mpy (mpy + 4)), (.bool ip)] _ hk10 Tryd.underlying29 rfl size_pt ?_)
      refine (h_).mono ?_; rintro e_ w25 ⟨a114, c114, rfl, s114, hb⟩
      replace hB := hB.trans (hb.mono hB.size)
      replace hk3 := hk3.keep hb
      replace kg := kg.keep hb
      replace hk6 := hk6.keep hb
      replace hk8 := hk8.keep hb
      replace kpx := kpx.keep hb
      replace kpy := kpy.keep hb
      replace hk10 := hk10.keep hb
      replace s109 := s109.below hb
      clear hb h_
      have hcc_ : (E2.1 != E2.1) = false := by simp
      have hcd_ : (E2.1 == E2.1) = true := by simp
      have h_ := same13_c _ _ _ _ _ _ _ s114 s109
      rw [show decide (E2.2 = E2.2) = true from decide_eq_true rfl] at h_
      go_wp2_with fail
      refine (h_).mono ?_; rintro e_ w26 ⟨rfl, hd_⟩
      have hb := hd_.b
      replace hB := hB.trans (hb.mono hB.size)
      replace hk3 := hk3.keep hb
      replace kg := kg.keep hb
      replace hk6 := hk6.keep hb
      replace hk8 := hk8.keep hb
      replace kpx := kpx.keep hb
      replace kpy := kpy.keep hb
      replace hk10 := hk10.keep hb
      replace s109 := s109.below hb
      replace s114 := s114.below hb
      clear hb h_ hd_
      clear s109
      clear s114
      have h_ := Base_c w26 (tB.below hB)
      go_wp2_with fail
      refine h_.mono ?_; rintro e_ w27 ⟨v126, rfl, hn, hb⟩
      have p126 := hn.at_
      clear h_ hn
      replace hB := hB.trans (hb.mono hB.size)
      replace hk3 := hk3.keep hb
      replace kg := kg.keep hb
      replace hk6 := hk6.keep hb
      replace hk8 := hk8.keep hb
      replace kpx := kpx.keep hb
      replace kpy := kpy.keep hb
      replace hk10 := hk10.keep hb
      clear hb
      have h_ := rBase_c w27
      go_wp2_with fail
      refine h_.mono ?_; rintro e_ w28 ⟨v127, rfl, p127, hb⟩
      clear h_
      replace hB := hB.trans (hb.mono hB.size)
      replace hk3 := hk3.keep hb
      replace kg := kg.keep hb
      replace hk6 := hk6.keep hb
      replace hk8 := hk8.keep hb
      replace kpx := kpx.keep hb
      replace kpy := kpy.keep hb
      replace hk10 := hk10.keep hb
      replace p126 := p126.below hb
      clear hb
      have h_ := one_c p126 p127
      rw [show decide (eB.1.val = eB.1.val ∧ eB.2.val = eB.2.val) = true from decide_eq_true ⟨rfl, rfl⟩] at h_
      go_wp2_with fail
      refine h_.mono ?_; rintro e_ w29 ⟨rfl, hb⟩
      clear h_ p127
      replace hB := hB.trans (hb.mono hB.size)
      replace hk3 := hk3.keep hb
      replace kg := kg.keep hb
      replace hk6 := hk6.keep hb
      replace hk8 := hk8.keep hb
      replace kpx := kpx.keep hb
      replace kpy := kpy.keep hb
      replace hk10 := hk10.keep hb
      replace p126 := p126.below hb
      clear hb
      clear p126
      have h_ := Order_c w29 (tL.below hB)
      go_wp2_with fail
      refine h_.mono ?_; rintro e_ w30 ⟨g131, rfl, _, hk131, hb⟩
      have c131 := CanAt.rw8 hk131 lim8_L
      clear h_ hk131
      replace hB := hB.trans (hb.mono hB.size)
      replace hk3 := hk3.keep hb
      replace kg := kg.keep hb
      replace hk6 := hk6.keep hb
      replace hk8 := hk8.keep hb
      replace kpx := kpx.keep hb
      replace kpy := kpy.keep hb
      replace hk10 := hk10.keep hb
      clear hb
      have h_ := rL_c w30
      go_wp2_with fail
      refine h_.mono ?_; rintro e_ w31 ⟨v132, rfl, c132, hb⟩
      clear h_
      replace hB := hB.trans (hb.mono hB.size)
      replace hk3 := hk3.keep hb
      replace kg := kg.keep hb
      replace hk6 := hk6.keep hb
      replace hk8 := hk8.keep hb
      replace kpx := kpx.keep hb
      replace kpy := kpy.keep hb
      replace hk10 := hk10.keep hb
      replace c131 := c131.below hb
      clear hb
      have h_ := sameNat_can c131 c132
      rw [show decide (eL = eL) = true from decide_eq_true rfl] at h_
      go_wp2_with fail
      refine h_.mono ?_; rintro e_ w32 ⟨rfl, hd_⟩
      have hb := hd_.b
      clear h_ c132 hd_
      replace hB := hB.trans (hb.mono hB.size)
      replace hk3 := hk3.keep hb
      replace kg := kg.keep hb
      replace hk6 := hk6.keep hb
      replace hk8 := hk8.keep hb
      replace kpx := kpx.keep hb
      replace kpy := kpy.keep hb
      replace hk10 := hk10.keep hb
      replace c131 := c131.below hb
      clear hb
      clear c131
      go_wp2_with fail
      go_ret
      exact ⟨by first | done | rfl | simp, hB⟩
    · skip
      have hd0 : decide ((0 : Int) < (mpx : Int)) = false := decide_eq_false (by omega)
      have hy1 : ¬ (0 : Int) < (mpx : Int) := by omega
      have q0_ := hk10.cell 0 rfl
      obtain ⟨E2, hE2_⟩ : ∃ r, r = encA X Y ip := ⟨_, rfl⟩
      have HE2 := Lib.hid hE2_.symm
      clear hE2_
      have h_ := renc_any (i := ip) ⟨_, _, rfl, nu_px gpx _ kpx, nu_py gpy _ kpy⟩
      rw [HE2.out] at h_
      go_wp2_with (refine wpList_load_agg rfl 29 _ rfl g10 rfl _ [(.slice (some ⟨gpx, 0, none⟩) mpx (mpx + 4)), (.slice (some ⟨gpy, 0, none⟩) mpy (mpy + 4)), (.bool ip)] _ hk10 Tryd.underlying29 rfl size_pt ?_)
      refine (h_).mono ?_; rintro e_ w23 ⟨a109, c109, rfl, s109, hb⟩
      replace hB := hB.trans (hb.mono hB.size)
      replace hk3 := hk3.keep hb
      replace kg := kg.keep hb
      replace hk6 := hk6.keep hb
      replace hk8 := hk8.keep hb
      replace kpx := kpx.keep hb
      replace kpy := kpy.keep hb
      replace hk10 := hk10.keep hb
      clear hb h_
      have h_ := enc_any (i := ip) ⟨_, _, rfl, nu_px gpx _ kpx, nu_py gpy _ kpy⟩ (tP.below hB) (tD.below hB)
      rw [HE2.out] at h_
      go_wp2_with (refine wpList_load_agg rfl 29 _ rfl g10 rfl _ [(.slice (some ⟨gpx, 0, none⟩) mpx (mpx + 4)), (.slice (some ⟨gpy, 0, none⟩) mpy (mpy + 4)), (.bool ip)] _ hk10 Tryd.underlying29 rfl size_pt ?_)
      refine (h_).mono ?_; rintro e_ w24 ⟨a114, c114, rfl, s114, hb⟩
      replace hB := hB.trans (hb.mono hB.size)
      replace hk3 := hk3.keep hb
      replace kg := kg.keep hb
      replace hk6 := hk6.keep hb
      replace hk8 := hk8.keep hb
      replace kpx := kpx.keep hb
      replace kpy := kpy.keep hb
      replace hk10 := hk10.keep hb
      replace s109 := s109.below hb
      clear hb h_
      have hcc_ : (E2.1 != E2.1) = false := by simp
      have hcd_ : (E2.1 == E2.1) = true := by simp
      have h_ := same13_c _ _ _ _ _ _ _ s114 s109
      rw [show decide (E2.2 = E2.2) = true from decide_eq_true rfl] at h_
      go_wp2_with fail
      refine (h_).mono ?_; rintro e_ w25 ⟨rfl, hd_⟩
      have hb := hd_.b
      replace hB := hB.trans (hb.mono hB.size)
      replace hk3 := hk3.keep hb
      replace kg := kg.keep hb
      replace hk6 := hk6.keep hb
      replace hk8 := hk8.keep hb
      replace kpx := kpx.keep hb
      replace kpy := kpy.keep hb
      replace hk10 := hk10.keep hb
      replace s109 := s109.below hb
      replace s114 := s114.below hb
      clear hb h_ hd_
      clear s109
      clear s114
      have h_ := Base_c w25 (tB.below hB)
      go_wp2_with fail
      refine h_.mono ?_; rintro e_ w26 ⟨v126, rfl, hn, hb⟩
      have p126 := hn.at_
      clear h_ hn
      replace hB := hB.trans (hb.mono hB.size)
      replace hk3 := hk3.keep hb
      replace kg := kg.keep hb
      replace hk6 := hk6.keep hb
      replace hk8 := hk8.keep hb
      replace kpx := kpx.keep hb
      replace kpy := kpy.keep hb
      replace hk10 := hk10.keep hb
      clear hb
      have h_ := rBase_c w26
      go_wp2_with fail
      refine h_.mono ?_; rintro e_ w27 ⟨v127, rfl, p127, hb⟩
      clear h_
      replace hB := hB.trans (hb.mono hB.size)
      replace hk3 := hk3.keep hb
      replace kg := kg.keep hb
      replace hk6 := hk6.keep hb
      replace hk8 := hk8.keep hb
      replace kpx := kpx.keep hb
      replace kpy := kpy.keep hb
      replace hk10 := hk10.keep hb
      replace p126 := p126.below hb
      clear hb
      have h_ := one_c p126 p127
      rw [show decide (eB.1.val = eB.1.val ∧ eB.2.val = eB.2.val) = true from decide_eq_true ⟨rfl, rfl⟩] at h_
      go_wp2_with fail
      refine h_.mono ?_; rintro e_ w28 ⟨rfl, hb⟩
      clear h_ p127
      replace hB := hB.trans (hb.mono hB.size)
      replace hk3 := hk3.keep hb
      replace kg := kg.keep hb
      replace hk6 := hk6.keep hb
      replace hk8 := hk8.keep hb
      replace kpx := kpx.keep hb
      replace kpy := kpy.keep hb
      replace hk10 := hk10.keep hb
      replace p126 := p126.below hb
      clear hb
      clear p126
      have h_ := Order_c w28 (tL.below hB)
      go_wp2_with fail
      refine h_.mono ?_; rintro e_ w29 ⟨g131, rfl, _, hk131, hb⟩
      have c131 := CanAt.rw8 hk131 lim8_L
      clear h_ hk131
      replace hB := hB.trans (hb.mono hB.size)
      replace hk3 := hk3.keep hb
      replace kg := kg.keep hb
      replace hk6 := hk6.keep hb
      replace hk8 := hk8.keep hb
      replace kpx := kpx.keep hb
      replace kpy := kpy.keep hb
      replace hk10 := hk10.keep hb
      clear hb
      have h_ := rL_c w29
      go_wp2_with fail
      refine h_.mono ?_; rintro e_ w30 ⟨v132, rfl, c132, hb⟩
      clear h_
      replace hB := hB.trans (hb.mono hB.size)
      replace hk3 := hk3.keep hb
      replace kg := kg.keep hb
      replace hk6 := hk6.keep hb
      replace hk8 := hk8.keep hb
      replace kpx := kpx.keep hb
      replace kpy := kpy.keep hb
      replace hk10 := hk10.keep hb
      replace c131 := c131.below hb
      clear hb
      have h_ := sameNat_can c131 c132
      rw [show decide (eL = eL) = true from decide_eq_true rfl] at h_
      go_wp2_with fail
      refine h_.mono ?_; rintro e_ w31 ⟨rfl, hd_⟩
      have hb := hd_.b
      clear h_ c132 hd_
      replace hB := hB.trans (hb.mono hB.size)
      replace hk3 := hk3.keep hb
      replace kg := kg.keep hb
      replace hk6 := hk6.keep hb
      replace hk8 := hk8.keep hb
      replace kpx := kpx.keep hb
      replace kpy := kpy.keep hb
      replace hk10 := hk10.keep hb
      replace c131 := c131.below hb
      clear hb
      clear c131
      go_wp2_with fail
      go_ret
      exact ⟨by first | done | rfl | simp, hB⟩
  · skip
    have hd0 : decide ((0 : Int) < (mb : Int)) = false := decide_eq_false (by omega)
    have hk1_ : ¬ (0 : Int) < (mb : Int) := by omega
    obtain ⟨A2, hA2_⟩ : ∃ r, r = decA (decB xs) := ⟨_, rfl⟩
    have smA2 : Small A2 := by rw [hA2_]; exact decA_small ..
    have HA2 := Lib.hid hA2_.symm
    clear hA2_
    have h_ := rdg gg _ kg
    rw [HA2.out] at h_
    go_wp2_with fail
    refine (h_).mono ?_; rintro e_ w11 ⟨v51, rfl, hn, hb⟩
    obtain ⟨v51x, v51y, rfl, h1_, h2_⟩ := hn
    have off_r51x_3 := NatRes.off_new h1_ hk3.lt
    have off_r51x_6 := NatRes.off_new h1_ hk6.lt
    have off_r51x_8 := NatRes.off_new h1_ hk8.lt
    have off_r51y_3 := NatRes.off_new h2_ hk3.lt
    have off_r51y_6 := NatRes.off_new h2_ hk6.lt
    have off_r51y_8 := NatRes.off_new h2_ hk8.lt
    have r51x := h1_.mono (Nat.zero_le _)
    have r51y := h2_.mono (Nat.zero_le _)
    obtain ⟨av51x, nv51x, pv51x, rfl⟩ := (r51x.can smA2.1 (by omega)).sliced
    obtain ⟨av51y, nv51y, pv51y, rfl⟩ := (r51y.can smA2.2 (by omega)).sliced
    clear h1_ h2_
    replace hB := hB.trans (hb.mono hB.size)
    replace hk3 := hk3.keep hb
    replace kg := kg.keep hb
    replace hk6 := hk6.keep hb
    replace hk8 := hk8.keep hb
    clear hb h_
    go_wp2_with (refine wpList_store_agg rfl 29 _ _ rfl g8 29 [(.slice av22x nv22x pv22x), (.slice av22y nv22y pv22y), (.bool false)] [(.slice av51x nv51x pv51x), (.slice av51y nv51y pv51y), (.bool false)] rfl rfl hk8 size_pt (by intro v_ hv_; simp only [List.mem_cons, List.not_mem_nil, or_false] at hv_; rcases hv_ with rfl | rfl | rfl <;> first | rfl | exact (r51x.can smA2.1 (by omega)).one_cell | exact (r51y.can smA2.2 (by omega)).one_cell) rfl ?_)
    intro w12 hn hg
    replace hB := hB.grown hg hB.size (by intro k_ hk_; cases hk_; exact HG8.out)
    replace hk3 := hk3.grown hg (fun e_ => NE3_8.out (Option.some.inj e_))
    replace kg := kg.grown hg (fun e_ => nb_kg_8.out (Option.some.inj e_))
    replace hk6 := hk6.grown hg (fun e_ => NE6_8.out (Option.some.inj e_))
    replace hk8 := hn
    replace r51x := r51x.off off_r51x_8 hg
    replace r51y := r51y.off off_r51y_8 hg
    clear hn hg
    have h_ := dg gg _ kg (tP.below hB) (tD.below hB) (tI.below hB)
    rw [HA2.out] at h_
    go_wp2_with fail
    refine (h_).mono ?_; rintro e_ w13 ⟨v56, rfl, hn, hb⟩
    obtain ⟨v56x, v56y, rfl, h1_, h2_⟩ := hn
    have off_r56x_3 := NatRes.off_new h1_ hk3.lt
    have off_r56x_6 := NatRes.off_new h1_ hk6.lt
    have off_r56x_8 := NatRes.off_new h1_ hk8.lt
    have off_r56y_3 := NatRes.off_new h2_ hk3.lt
    have off_r56y_6 := NatRes.off_new h2_ hk6.lt
    have off_r56y_8 := NatRes.off_new h2_ hk8.lt
    have r56x := h1_.mono (Nat.zero_le _)
    have r56y := h2_.mono (Nat.zero_le _)
    obtain ⟨av56x, nv56x, pv56x, rfl⟩ := (r56x.can smA2.1 (by omega)).sliced
    obtain ⟨av56y, nv56y, pv56y, rfl⟩ := (r56y.can smA2.2 (by omega)).sliced
    clear h1_ h2_
    replace hB := hB.trans (hb.mono hB.size)
    replace hk3 := hk3.keep hb
    replace kg := kg.keep hb
    replace hk6 := hk6.keep hb
    replace hk8 := hk8.keep hb
    replace r51x := r51x.below hb
    replace r51y := r51y.below hb
    clear hb h_
    go_wp2_with (refine wpList_store_agg rfl 29 _ _ rfl g6 29 [(.slice av17x nv17x pv17x), (.slice av17y nv17y pv17y), (.bool false)] [(.slice av56x nv56x pv56x), (.slice av56y nv56y pv56y), (.bool false)] rfl rfl hk6 size_pt (by intro v_ hv_; simp only [List.mem_cons, List.not_mem_nil, or_false] at hv_; rcases hv_ with rfl | rfl | rfl <;> first | rfl | exact (r56x.can smA2.1 (by omega)).one_cell | exact (r56y.can smA2.2 (by omega)).one_cell) rfl ?_)
    intro w14 hn hg
    replace hB := hB.grown hg hB.size (by intro k_ hk_; cases hk_; exact HG6.out)
    replace hk3 := hk3.grown hg (fun e_ => NE3_6.out (Option.some.inj e_))
    replace kg := kg.grown hg (fun e_ => nb_kg_6.out (Option.some.inj e_))
    replace hk6 := hn
    replace hk8 := hk8.grown hg (fun e_ => NE6_8.out (Option.some.inj e_).symm)
    replace r51x := r51x.off off_r51x_6 hg
    replace r51y := r51y.off off_r51y_6 hg
    replace r56x := r56x.off off_r56x_6 hg
    replace r56y := r56y.off off_r56y_6 hg
    clear hn hg
    have hcc_ : (A2.1 != A2.1) = false := by simp
    have hcd_ : (A2.1 == A2.1) = true := by simp
    have h_ := one_c ⟨_, _, rfl, (r56x.can smA2.1 (by omega)), (r56y.can smA2.2 (by omega))⟩ ⟨_, _, rfl, (r51x.can smA2.1 (by omega)), (r51y.can smA2.2 (by omega))⟩
    rw [show decide (A2.2.1 = A2.2.1 ∧ A2.2.2 = A2.2.2) = true from decide_eq_true ⟨rfl, rfl⟩] at h_
    have q0_ := hk6.cell 0 rfl
    have q1_ := hk6.cell 1 rfl
    have q2_ := hk6.cell 2 rfl
    have q3_ := hk8.cell 0 rfl
    have q4_ := hk8.cell 1 rfl
    have q5_ := hk8.cell 2 rfl
    go_wp2_with fail
    refine (h_).mono ?_; rintro e_ w15 ⟨rfl, hb⟩
    clear q0_ q1_ q2_ q3_ q4_ q5_
    replace hB := hB.trans (hb.mono hB.size)
    replace hk3 := hk3.keep hb
    replace kg := kg.keep hb
    replace hk6 := hk6.keep hb
    replace hk8 := hk8.keep hb
    replace r51x := r51x.below hb
    replace r51y := r51y.below hb
    replace r56x := r56x.below hb
    replace r56y := r56y.below hb
    clear hb h_
    clear hcc_ hcd_
    clear r51x
    clear r51y
    clear r56x
    clear r56y
    go_wp2_with (refine wpList_load_agg rfl 29 _ rfl g3 rfl _ [(.slice apx mpx cpx), (.slice apy mpy cpy), (.bool ip)] _ hk3 Tryd.underlying29 rfl size_pt ?_)
    refine (twp _ (spx.below hB) (spy.below hB)).mono ?_; rintro e_ w16 ⟨gpx, gpy, rfl, hge_, hxy_, kpx, kpy, hb⟩
    have hge2_ := Nat.le_trans hge_ (Nat.le_of_lt hxy_)
    have nb_kpx_3 : Hid (gpx ≠ g3) := Lib.hid (by have := hk3.lt; have := hge_; omega)
    have nb_kpx_6 : Hid (gpx ≠ g6) := Lib.hid (by have := hk6.lt; have := hge_; omega)
    have nb_kpx_8 : Hid (gpx ≠ g8) := Lib.hid (by have := hk8.lt; have := hge_; omega)
    have nbb_kg_kpx : Hid (gg ≠ gpx) := Lib.hid (by have := kg.lt; have := hge_; omega)
    have HB_kpx : Hid (w.heap.size ≤ gpx) := Lib.hid (Nat.le_trans hB.size hge_)
    have nb_kpy_3 : Hid (gpy ≠ g3) := Lib.hid (by have := hk3.lt; have := hge2_; omega)
    have nb_kpy_6 : Hid (gpy ≠ g6) := Lib.hid (by have := hk6.lt; have := hge2_; omega)
    have nb_kpy_8 : Hid (gpy ≠ g8) := Lib.hid (by have := hk8.lt; have := hge2_; omega)
    have nbb_kg_kpy : Hid (gg ≠ gpy) := Lib.hid (by have := kg.lt; have := hge2_; omega)
    have HB_kpy : Hid (w.heap.size ≤ gpy) := Lib.hid (Nat.le_trans hB.size hge2_)
    have nbb_kpx_kpy : Hid (gpx ≠ gpy) := Lib.hid (Nat.ne_of_lt hxy_)
    replace hB := hB.trans (hb.mono hB.size)
    replace hk3 := hk3.keep hb
    replace kg := kg.keep hb
    replace hk6 := hk6.keep hb
    replace hk8 := hk8.keep hb
    clear hb hge_ hge2_ hxy_
    go_wp2_with (refine wpList_alloc_agg rfl 29 rfl [(.slice none 0 0), (.slice none 0 0), (.bool false)] 3 (by kernel_rfl) ?_)
    intro w17 hk10 hb
    have hz_ := hB.size
    have lt3_ := hk3.lt
    have lt6_ := hk6.lt
    have lt8_ := hk8.lt
    have ltb_kg := kg.lt
    have ltb_kpx := kpx.lt
    have ltb_kpy := kpy.lt
    replace hB := hB.trans (hb.mono hB.size)
    replace hk3 := hk3.keep hb
    replace kg := kg.keep hb
    replace hk6 := hk6.keep hb
    replace hk8 := hk8.keep hb
    replace kpx := kpx.keep hb
    replace kpy := kpy.keep hb
    clear hb
    obtain ⟨g10, hg_⟩ : ∃ g, g = w16.heap.size := ⟨_, rfl⟩
    rw [← hg_] at hk10 ⊢
    have HG10 : Hid (w.heap.size ≤ g10) := Lib.hid (by rw [hg_]; exact hz_)
    have NE3_10 : Hid (g3 ≠ g10) := Lib.hid (by rw [hg_]; exact Nat.ne_of_lt lt3_)
    have NE6_10 : Hid (g6 ≠ g10) := Lib.hid (by rw [hg_]; exact Nat.ne_of_lt lt6_)
    have NE8_10 : Hid (g8 ≠ g10) := Lib.hid (by rw [hg_]; exact Nat.ne_of_lt lt8_)
    have nb_kg_10 : Hid (gg ≠ g10) := Lib.hid (by rw [hg_]; exact Nat.ne_of_lt ltb_kg)
    clear ltb_kg
    have nb_kpx_10 : Hid (gpx ≠ g10) := Lib.hid (by rw [hg_]; exact Nat.ne_of_lt ltb_kpx)
    clear ltb_kpx
    have nb_kpy_10 : Hid (gpy ≠ g10) := Lib.hid (by rw [hg_]; exact Nat.ne_of_lt ltb_kpy)
    clear ltb_kpy
    clear hg_ hz_ lt3_ lt6_ lt8_
    go_wp2_with (refine wpList_store_agg rfl 29 _ _ rfl g10 29 [(.slice none 0 0), (.slice none 0 0), (.bool false)] [(.slice (some ⟨gpx, 0, none⟩) mpx (mpx + 4)), (.slice (some ⟨gpy, 0, none⟩) mpy (mpy + 4)), (.bool ip)] rfl rfl hk10 size_pt (by intro v_ hv_; simp only [List.mem_cons, List.not_mem_nil, or_false] at hv_; rcases hv_ with rfl | rfl | rfl <;> rfl) rfl ?_)
    intro w18 hn hg
    replace hB := hB.grown hg hB.size (by intro k_ hk_; cases hk_; exact HG10.out)
    replace hk3 := hk3.grown hg (fun e_ => NE3_10.out (Option.some.inj e_))
    replace kg := kg.grown hg (fun e_ => nb_kg_10.out (Option.some.inj e_))
    replace hk6 := hk6.grown hg (fun e_ => NE6_10.out (Option.some.inj e_))
    replace hk8 := hk8.grown hg (fun e_ => NE8_10.out (Option.some.inj e_))
    replace kpx := kpx.grown hg (fun e_ => nb_kpx_10.out (Option.some.inj e_))
    replace kpy := kpy.grown hg (fun e_ => nb_kpy_10.out (Option.some.inj e_))
    replace hk10 := hn
    clear hn hg
    obtain ⟨E1, hE1_⟩ : ∃ r, r = encA X Y ip := ⟨_, rfl⟩
    have HE1 := Lib.hid hE1_.symm
    clear hE1_
    have h_ := enc_any (i := ip) ⟨_, _, rfl, nu_px gpx _ kpx, nu_py gpy _ kpy⟩ (tP.below hB) (tD.below hB)
    rw [HE1.out] at h_
    go_wp2_with (refine wpList_load_agg rfl 29 _ rfl g10 rfl _ [(.slice (some ⟨gpx, 0, none⟩) mpx (mpx + 4)), (.slice (some ⟨gpy, 0, none⟩) mpy (mpy + 4)), (.bool ip)] _ hk10 Tryd.underlying29 rfl size_pt ?_)
    refine (h_).mono ?_; rintro e_ w19 ⟨a72, c72, rfl, s72, hb⟩
    replace hB := hB.trans (hb.mono hB.size)
    replace hk3 := hk3.keep hb
    replace kg := kg.keep hb
    replace hk6 := hk6.keep hb
    replace hk8 := hk8.keep hb
    replace kpx := kpx.keep hb
    replace kpy := kpy.keep hb
    replace hk10 := hk10.keep hb
    clear hb h_
    have h_ := renc_any (i := ip) (nP.below hB)
    rw [HE1.out] at h_
    go_wp2_with (refine wpList_load_agg rfl 29 _ rfl g3 rfl _ [(.slice apx mpx cpx), (.slice apy mpy cpy), (.bool ip)] _ hk3 Tryd.underlying29 rfl size_pt ?_)
    refine (h_).mono ?_; rintro e_ w20 ⟨a77, c77, rfl, s77, hb⟩
    replace hB := hB.trans (hb.mono hB.size)
    replace hk3 := hk3.keep hb
    replace kg := kg.keep hb
    replace hk6 := hk6.keep hb
    replace hk8 := hk8.keep hb
    replace kpx := kpx.keep hb
    replace kpy := kpy.keep hb
    replace hk10 := hk10.keep hb
    replace s72 := s72.below hb
    clear hb h_
    have hcc_ : (E1.1 != E1.1) = false := by simp
    have hcd_ : (E1.1 == E1.1) = true := by simp
    have h_ := same13_c _ _ _ _ _ _ _ s72 s77
    rw [show decide (E1.2 = E1.2) = true from decide_eq_true rfl] at h_
    go_wp2_with fail
    refine (h_).mono ?_; rintro e_ w21 ⟨rfl, hd_⟩
    have hb := hd_.b
    replace hB := hB.trans (hb.mono hB.size)
    replace hk3 := hk3.keep hb
    replace kg := kg.keep hb
    replace hk6 := hk6.keep hb
    replace hk8 := hk8.keep hb
    replace kpx := kpx.keep hb
    replace kpy := kpy.keep hb
    replace hk10 := hk10.keep hb
    replace s72 := s72.below hb
    replace s77 := s77.below hb
    clear hb h_ hd_
    have q0_ := hk10.cell 0 rfl
    have q1_ := hk10.cell 1 rfl
    have q2_ := hk10.cell 2 rfl
    have q3_ := hk3.cell 0 rfl
    have q4_ := hk3.cell 1 rfl
    have q5_ := hk3.cell 2 rfl
    go_wp2_with fail
    refine (stp gpx gpy _ kpx kpy (spx.below hB) (spy.below hB)).mono ?_; rintro e_ w22 ⟨rfl, hb⟩
    clear q0_ q1_ q2_ q3_ q4_ q5_
    replace hB := hB.trans (hb.mono hB.size)
    replace hk3 := hk3.keep hb
    replace kg := kg.keep hb
    replace hk6 := hk6.keep hb
    replace hk8 := hk8.keep hb
    replace kpx := kpx.keep hb
    replace kpy := kpy.keep hb
    replace hk10 := hk10.keep hb
    replace s72 := s72.below hb
    replace s77 := s77.below hb
    clear hb
    clear hcc_ hcd_
    clear s72
    clear s77
    by_cases hy0 : 0 < mpx
    · skip
      have hd0 : decide ((0 : Int) < (mpx : Int)) = true := decide_eq_true (by omega)
      have hy1 : (0 : Int) < (mpx : Int) := by omega
      have b0 := kpx.cell 0 (by rw [List.length_append, ← HMpx.out]; omega)
      have bf := kpx.free 0
      obtain ⟨x1, hx0⟩ : ∃ x, x = nth (px ++ mw4) 0 := ⟨_, rfl⟩
      rw [← hx0] at b0
      have xry1 := xor_u32_rng x1 1
      obtain ⟨y1, hy0_⟩ : ∃ y, y = bits .xor .u32 x1 1 := ⟨_, rfl⟩
      rw [← hy0_] at xry1
      have eqs := hy0_.symm
      have ks_ := kpx.set 0 y1
      rw [List.set_append_left _ _ (by rw [← HMpx.out]; assumption)] at ks_
      clear hx0 hy0_
      obtain ⟨X2, hX2⟩ : ∃ y, y = val (px.set 0 y1) := ⟨_, rfl⟩
      have npx2 := fun W (h : Blk W gpx .u32 36 (px.set 0 y1 ++ mw4)) => nu_px2 gpx y1 W xry1 h
      rw [← hX2] at npx2
      clear hX2 hy0
      have q0_ := hk10.cell 0 rfl
      go_wp2_with fail
      go_region
      clear q0_ b0 bf eqs
      replace hB := hB.setCell (p := ⟨gpx, 0, none⟩) HB_kpx.out (.int .u32 y1)
      replace hk3 := hk3.other (Ne.symm nb_kpx_3.out) 0 (.int .u32 y1)
      replace kg := kg.other nbb_kg_kpx.out 0 (.int .u32 y1)
      replace hk6 := hk6.other (Ne.symm nb_kpx_6.out) 0 (.int .u32 y1)
      replace hk8 := hk8.other (Ne.symm nb_kpx_8.out) 0 (.int .u32 y1)
      replace kpy := kpy.other (Ne.symm nbb_kpx_kpy.out) 0 (.int .u32 y1)
      replace hk10 := hk10.other (Ne.symm nb_kpx_10.out) 0 (.int .u32 y1)
      replace kpx := ks_
      clear ks_
      have hb := below_drewN (Below.refl (World.heap (World.setCell w22 ⟨gpx, 0, none⟩ (.int .u32 y1))).size (World.setCell w22 ⟨gpx, 0, none⟩ (.int .u32 y1))) 1
      obtain ⟨w23, hw_⟩ : ∃ x, x = World.drew (World.setCell w22 ⟨gpx, 0, none⟩ (.int .u32 y1)) := ⟨_, rfl⟩
      rw [show World.drewN (World.setCell w22 ⟨gpx, 0, none⟩ (.int .u32 y1)) 1 = w23 from hw_.symm] at hb
      rw [← hw_]
      clear hw_
      replace hB := hB.trans (hb.mono hB.size)
      replace hk3 := hk3.keep hb
      replace kg := kg.keep hb
      replace hk6 := hk6.keep hb
      replace hk8 := hk8.keep hb
      replace kpx := kpx.keep hb
      replace kpy := kpy.keep hb
      replace hk10 := hk10.keep hb
      clear hb
      obtain ⟨E2, hE2_⟩ : ∃ r, r = encA X2 Y ip := ⟨_, rfl⟩
      have HE2 := Lib.hid hE2_.symm
      clear hE2_
      have h_ := renc_any (i := ip) ⟨_, _, rfl, npx2 _ kpx, nu_py gpy _ kpy⟩
      rw [HE2.out] at h_
      go_wp2_with (refine wpList_load_agg rfl 29 _ rfl g10 rfl _ [(.slice (some ⟨gpx, 0, none⟩) mpx (mpx + 4)), (.slice (some ⟨gpy, 0, none⟩) mpy (mpy + 4)), (.bool ip)] _ hk10 Tryd.underlying29 rfl size_pt ?_)
      refine (h_).mono ?_; rintro e_ w24 ⟨a109, c109, rfl, s109, hb⟩
      replace hB := hB.trans (hb.mono hB.size)
      replace hk3 := hk3.keep hb
      replace kg := kg.keep hb
      replace hk6 := hk6.keep hb
      replace hk8 := hk8.keep hb
      replace kpx := kpx.keep hb
      replace kpy := kpy.keep hb
      replace hk10 := hk10.keep hb
      clear hb h_
      have h_ := enc_any (i := ip) ⟨_, _, rfl, npx2 _ kpx, nu_py gpy _ kpy⟩ (tP.below hB) (tD.below hB)
      rw [HE2.out] at h_
      go_wp2_with (refine wpList_load_agg rfl 29 _ rfl g10 rfl _ [(.slice (some ⟨gpx, 0, none⟩) mpx (mpx + 4)), (.slice (some ⟨gpy, 0, none⟩) mpy (mpy + 4)), (.bool ip)] _ hk10 Tryd.underlying29 rfl size_pt ?_)
      refine (h_).mono ?_; rintro e_ w25 ⟨a114, c114, rfl, s114, hb⟩
      replace hB := hB.trans (hb.mono hB.size)
      replace hk3 := hk3.keep hb
      replace kg := kg.keep hb
      replace hk6 := hk6.keep hb
      replace hk8 := hk8.keep hb
      replace kpx := kpx.keep hb
      replace kpy := kpy.keep hb
      replace hk10 := hk10.keep hb
      replace s109 := s109.below hb
      clear hb h_
      have hcc_ : (E2.1 != E2.1) = false := by simp
      have hcd_ : (E2.1 == E2.1) = true := by simp
      have h_ := same13_c _ _ _ _ _ _ _ s114 s109
      rw [show decide (E2.2 = E2.2) = true from decide_eq_true rfl] at h_
      go_wp2_with fail
      refine (h_).mono ?_; rintro e_ w26 ⟨rfl, hd_⟩
      have hb := hd_.b
      replace hB := hB.trans (hb.mono hB.size)
      replace hk3 := hk3.keep hb
      replace kg := kg.keep hb
      replace hk6 := hk6.keep hb
      replace hk8 := hk8.keep hb
      replace kpx := kpx.keep hb
      replace kpy := kpy.keep hb
      replace hk10 := hk10.keep hb
      replace s109 := s109.below hb
      replace s114 := s114.below hb
      clear hb h_ hd_
      clear s109
      clear s114
      have h_ := Base_c w26 (tB.below hB)
      go_wp2_with fail
      refine h_.mono ?_; rintro e_ w27 ⟨v126, rfl, hn, hb⟩
      have p126 := hn.at_
      clear h_ hn
      replace hB := hB.trans (hb.mono hB.size)
      replace hk3 := hk3.keep hb
      replace kg := kg.keep hb
      replace hk6 := hk6.keep hb
      replace hk8 := hk8.keep hb
      replace kpx := kpx.keep hb
      replace kpy := kpy.keep hb
      replace hk10 := hk10.keep hb
      clear hb
      have h_ := rBase_c w27
      go_wp2_with fail
      refine h_.mono ?_; rintro e_ w28 ⟨v127, rfl, p127, hb⟩
      clear h_
      replace hB := hB.trans (hb.mono hB.size)
      replace hk3 := hk3.keep hb
      replace kg := kg.keep hb
      replace hk6 := hk6.keep hb
      replace hk8 := hk8.keep hb
      replace kpx := kpx.keep hb
      replace kpy := kpy.keep hb
      replace hk10 := hk10.keep hb
      replace p126 := p126.below hb
      clear hb
      have h_ := one_c p126 p127
      rw [show decide (eB.1.val = eB.1.val ∧ eB.2.val = eB.2.val) = true from decide_eq_true ⟨rfl, rfl⟩] at h_
      go_wp2_with fail
      refine h_.mono ?_; rintro e_ w29 ⟨rfl, hb⟩
      clear h_ p127
      replace hB := hB.trans (hb.mono hB.size)
      replace hk3 := hk3.keep hb
      replace kg := kg.keep hb
      replace hk6 := hk6.keep hb
      replace hk8 := hk8.keep hb
      replace kpx := kpx.keep hb
      replace kpy := kpy.keep hb
      replace hk10 := hk10.keep hb
      replace p126 := p126.below hb
      clear hb
      clear p126
      have h_ := Order_c w29 (tL.below hB)
      go_wp2_with fail
      refine h_.mono ?_; rintro e_ w30 ⟨g131, rfl, _, hk131, hb⟩
      have c131 := CanAt.rw8 hk131 lim8_L
      clear h_ hk131
      replace hB := hB.trans (hb.mono hB.size)
      replace hk3 := hk3.keep hb
      replace kg := kg.keep hb
      replace hk6 := hk6.keep hb
      replace hk8 := hk8.keep hb
      replace kpx := kpx.keep hb
      replace kpy := kpy.keep hb
      replace hk10 := hk10.keep hb
      clear hb
      have h_ := rL_c w30
      go_wp2_with fail
      refine h_.mono ?_; rintro e_ w31 ⟨v132, rfl, c132, hb⟩
      clear h_
      replace hB := hB.trans (hb.mono hB.size)
      replace hk3 := hk3.keep hb
      replace kg := kg.keep hb
      replace hk6 := hk6.keep hb
      replace hk8 := hk8.keep hb
      replace kpx := kpx.keep hb
      replace kpy := kpy.keep hb
      replace hk10 := hk10.keep hb
      replace c131 := c131.below hb
      clear hb
      have h_ := sameNat_can c131 c132
      rw [show decide (eL = eL) = true from decide_eq_true rfl] at h_
      go_wp2_with fail
      refine h_.mono ?_; rintro e_ w32 ⟨rfl, hd_⟩
      have hb := hd_.b
      clear h_ c132 hd_
      replace hB := hB.trans (hb.mono hB.size)
      replace hk3 := hk3.keep hb
      replace kg := kg.keep hb
      replace hk6 := hk6.keep hb
      replace hk8 := hk8.keep hb
      replace kpx := kpx.keep hb
      replace kpy := kpy.keep hb
      replace hk10 := hk10.keep hb
      replace c131 := c131.below hb
      clear hb
      clear c131
      go_wp2_with fail
      go_ret
      exact ⟨by first | done | rfl | simp, hB⟩
    · skip
      have hd0 : decide ((0 : Int) < (mpx : Int)) = false := decide_eq_false (by omega)
      have hy1 : ¬ (0 : Int) < (mpx : Int) := by omega
      have q0_ := hk10.cell 0 rfl
      obtain ⟨E2, hE2_⟩ : ∃ r, r = encA X Y ip := ⟨_, rfl⟩
      have HE2 := Lib.hid hE2_.symm
      clear hE2_
      have h_ := renc_any (i := ip) ⟨_, _, rfl, nu_px gpx _ kpx, nu_py gpy _ kpy⟩
      rw [HE2.out] at h_
      go_wp2_with (refine wpList_load_agg rfl 29 _ rfl g10 rfl _ [(.slice (some ⟨gpx, 0, none⟩) mpx (mpx + 4)), (.slice (some ⟨gpy, 0, none⟩) mpy (mpy + 4)), (.bool ip)] _ hk10 Tryd.underlying29 rfl size_pt ?_)
      refine (h_).mono ?_; rintro e_ w23 ⟨a109, c109, rfl, s109, hb⟩
      replace hB := hB.trans (hb.mono hB.size)
      replace hk3 := hk3.keep hb
      replace kg := kg.keep hb
      replace hk6 := hk6.keep hb
      replace hk8 := hk8.keep hb
      replace kpx := kpx.keep hb
      replace kpy := kpy.keep hb
      replace hk10 := hk10.keep hb
      clear hb h_
      have h_ := enc_any (i := ip) ⟨_, _, rfl, nu_px gpx _ kpx, nu_py gpy _ kpy⟩ (tP.below hB) (tD.below hB)
      rw [HE2.out] at h_
      go_wp2_with (refine wpList_load_agg rfl 29 _ rfl g10 rfl _ [(.slice (some ⟨gpx, 0, none⟩) mpx (mpx + 4)), (.slice (some ⟨gpy, 0, none⟩) mpy (mpy + 4)), (.bool ip)] _ hk10 Tryd.underlying29 rfl size_pt ?_)
      refine (h_).mono ?_; rintro e_ w24 ⟨a114, c114, rfl, s114, hb⟩
      replace hB := hB.trans (hb.mono hB.size)
      replace hk3 := hk3.keep hb
      replace kg := kg.keep hb
      replace hk6 := hk6.keep hb
      replace hk8 := hk8.keep hb
      replace kpx := kpx.keep hb
      replace kpy := kpy.keep hb
      replace hk10 := hk10.keep hb
      replace s109 := s109.below hb
      clear hb h_
      have hcc_ : (E2.1 != E2.1) = false := by simp
      have hcd_ : (E2.1 == E2.1) = true := by simp
      have h_ := same13_c _ _ _ _ _ _ _ s114 s109
      rw [show decide (E2.2 = E2.2) = true from decide_eq_true rfl] at h_
      go_wp2_with fail
      refine (h_).mono ?_; rintro e_ w25 ⟨rfl, hd_⟩
      have hb := hd_.b
      replace hB := hB.trans (hb.mono hB.size)
      replace hk3 := hk3.keep hb
      replace kg := kg.keep hb
      replace hk6 := hk6.keep hb
      replace hk8 := hk8.keep hb
      replace kpx := kpx.keep hb
      replace kpy := kpy.keep hb
      replace hk10 := hk10.keep hb
      replace s109 := s109.below hb
      replace s114 := s114.below hb
      clear hb h_ hd_
      clear s109
      clear s114
      have h_ := Base_c w25 (tB.below hB)
      go_wp2_with fail
      refine h_.mono ?_; rintro e_ w26 ⟨v126, rfl, hn, hb⟩
      have p126 := hn.at_
      clear h_ hn
      replace hB := hB.trans (hb.mono hB.size)
      replace hk3 := hk3.keep hb
      replace kg := kg.keep hb
      replace hk6 := hk6.keep hb
      replace hk8 := hk8.keep hb
      replace kpx := kpx.keep hb
      replace kpy := kpy.keep hb
      replace hk10 := hk10.keep hb
      clear hb
      have h_ := rBase_c w26
      go_wp2_with fail
      refine h_.mono ?_; rintro e_ w27 ⟨v127, rfl, p127, hb⟩
      clear h_
      replace hB := hB.trans (hb.mono hB.size)
      replace hk3 := hk3.keep hb
      replace kg := kg.keep hb
      replace hk6 := hk6.keep hb
      replace hk8 := hk8.keep hb
      replace kpx := kpx.keep hb
      replace kpy := kpy.keep hb
      replace hk10 := hk10.keep hb
      replace p126 := p126.below hb
      clear hb
      have h_ := one_c p126 p127
      rw [show decide (eB.1.val = eB.1.val ∧ eB.2.val = eB.2.val) = true from decide_eq_true ⟨rfl, rfl⟩] at h_
      go_wp2_with fail
      refine h_.mono ?_; rintro e_ w28 ⟨rfl, hb⟩
      clear h_ p127
      replace hB := hB.trans (hb.mono hB.size)
      replace hk3 := hk3.keep hb
      replace kg := kg.keep hb
      replace hk6 := hk6.keep hb
      replace hk8 := hk8.keep hb
      replace kpx := kpx.keep hb
      replace kpy := kpy.keep hb
      replace hk10 := hk10.keep hb
      replace p126 := p126.below hb
      clear hb
      clear p126
      have h_ := Order_c w28 (tL.below hB)
      go_wp2_with fail
      refine h_.mono ?_; rintro e_ w29 ⟨g131, rfl, _, hk131, hb⟩
      have c131 := CanAt.rw8 hk131 lim8_L
      clear h_ hk131
      replace hB := hB.trans (hb.mono hB.size)
      replace hk3 := hk3.keep hb
      replace kg := kg.keep hb
      replace hk6 := hk6.keep hb
      replace hk8 := hk8.keep hb
      replace kpx := kpx.keep hb
      replace kpy := kpy.keep hb
      replace hk10 := hk10.keep hb
      clear hb
      have h_ := rL_c w29
      go_wp2_with fail
      refine h_.mono ?_; rintro e_ w30 ⟨v132, rfl, c132, hb⟩
      clear h_
      replace hB := hB.trans (hb.mono hB.size)
      replace hk3 := hk3.keep hb
      replace kg := kg.keep hb
      replace hk6 := hk6.keep hb
      replace hk8 := hk8.keep hb
      replace kpx := kpx.keep hb
      replace kpy := kpy.keep hb
      replace hk10 := hk10.keep hb
      replace c131 := c131.below hb
      clear hb
      have h_ := sameNat_can c131 c132
      rw [show decide (eL = eL) = true from decide_eq_true rfl] at h_
      go_wp2_with fail
      refine h_.mono ?_; rintro e_ w31 ⟨rfl, hd_⟩
      have hb := hd_.b
      clear h_ c132 hd_
      replace hB := hB.trans (hb.mono hB.size)
      replace hk3 := hk3.keep hb
      replace kg := kg.keep hb
      replace hk6 := hk6.keep hb
      replace hk8 := hk8.keep hb
      replace kpx := kpx.keep hb
      replace kpy := kpy.keep hb
      replace hk10 := hk10.keep hb
      replace c131 := c131.below hb
      clear hb
      clear c131
      go_wp2_with fail
      go_ret
      exact ⟨by first | done | rfl | simp, hB⟩
end Go.Proofs.YtlolkighnnedfaaDoor
