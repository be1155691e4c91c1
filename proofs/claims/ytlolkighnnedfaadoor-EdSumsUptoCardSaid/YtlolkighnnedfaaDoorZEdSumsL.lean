import Derived.Test.YtlolkighnnedfaaDoorZ34
import Derived.BigRegion
/- signetlaw13.EdSums by its contract: for numbers of at most 2^20 limbs in all: the law answers true, and nothing that was there has turned. (Printed by gen_edsums.py.) -/
set_option linter.unusedVariables false
set_option linter.unusedSimpArgs false
namespace Go.Proofs.YtlolkighnnedfaaDoor
open Go.RowKit Go.Sg
theorem xor_u32_rng (x y : Int) : 0 ≤ bits .xor .u32 x y ∧ bits .xor .u32 x y ≤ 4294967295 := by
  unfold bits
  simp only [IntKind.wrap_u32']
  omega
theorem wide_num {w : World} {g : Nat} {xs : List Int} (h : Blk w g .u32 36 (xs ++ mw4)) (u : U32 xs) (hl : xs.length ≤ 17592186044415) : NumAt w (.slice (some ⟨g, 0, none⟩) xs.length (xs.length + 4)) (val xs) := ⟨_, _, xs, rfl, wide_sl h hl, u, rfl, hl⟩
theorem PtN.can {B : Nat} {w : World} {v : Value} {r : Int × Nat × Nat} (s : Small r) (h : PtN B w v r.2.1 r.2.2) : ∃ vx vy, v = .agg #[vx, vy, .bool false] ∧ CanAt w vx r.2.1 ∧ CanAt w vy r.2.2 := by
  obtain ⟨vx, vy, e, h1, h2⟩ := h
  exact ⟨vx, vy, e, h1.can s.1 (by omega), h2.can s.2 (by omega)⟩

set_option maxHeartbeats 4000000 in
set_option maxRecDepth 20000 in
theorem EdSums_c {ak apx apy aqx aqy : Option Addr} {ck cpx cpy cqx cqy : Nat} {ks px py qx qy : List Int} {ip iq : Bool} {w : World} (sk : Sl .u32 w ak ck ks) (spx : Sl .u32 w apx cpx px) (spy : Sl .u32 w apy cpy py) (sqx : Sl .u32 w aqx cqx qx) (sqy : Sl .u32 w aqy cqy qy) (uk : U32 ks) (upx : U32 px) (upy : U32 py) (uqx : U32 qx) (uqy : U32 qy) (hz : ks.length + px.length + py.length + qx.length + qy.length ≤ 1048576) (tP : TabAt w 0 limbP) (tD : TabAt w 3 limbD) :
    Calls Tryd.prog 5 #[.slice ak ks.length ck, .agg #[.slice apx px.length cpx, .slice apy py.length cpy, .bool ip], .agg #[.slice aqx qx.length cqx, .slice aqy qy.length cqy, .bool iq]] w (fun e w' => e = .returned (.bool true) ∧ Below w.heap.size w w') := by
  have lk : ks.length ≤ 17592186044415 := by omega
  have lpx : px.length ≤ 17592186044415 := by omega
  have lpy : py.length ≤ 17592186044415 := by omega
  have lqx : qx.length ≤ 17592186044415 := by omega
  have lqy : qy.length ≤ 17592186044415 := by omega
  have nk : NumAt w (.slice ak ks.length ck) (val ks) := ⟨_, _, ks, rfl, sk, uk, rfl, lk⟩
  have nP : PtIn w (.agg #[.slice apx px.length cpx, .slice apy py.length cpy, .bool ip]) (val px) (val py) ip := ⟨_, _, rfl, ⟨_, _, px, rfl, spx, upx, rfl, lpx⟩, ⟨_, _, py, rfl, spy, upy, rfl, lpy⟩⟩
  have nQ : PtIn w (.agg #[.slice aqx qx.length cqx, .slice aqy qy.length cqy, .bool iq]) (val qx) (val qy) iq := ⟨_, _, rfl, ⟨_, _, qx, rfl, sqx, uqx, rfl, lqx⟩, ⟨_, _, qy, rfl, sqy, uqy, rfl, lqy⟩⟩
  have wk := fun W (h : Sl .u32 W ak ck ks) => wide_c ak ck ks W h lk
  have twp := fun W (h : Sl .u32 W apx cpx px) (h' : Sl .u32 W apy cpy py) => twin_c (inf := ip) h h' lpx lpy
  have twq := fun W (h : Sl .u32 W aqx cqx qx) (h' : Sl .u32 W aqy cqy qy) => twin_c (inf := iq) h h' lqx lqy
  have kk := fun g W (k : Blk W g .u32 36 (ks ++ mw4)) (h : Sl .u32 W ak ck ks) => kept_c g ak ck ks W k h lk
  have stp := fun g g' W (k : Blk W g .u32 36 (px ++ mw4)) (k' : Blk W g' .u32 36 (py ++ mw4)) (h : Sl .u32 W apx cpx px) (h' : Sl .u32 W apy cpy py) => still_c13 (inf := ip) k k' h h' lpx lpy
  have stq := fun g g' W (k : Blk W g .u32 36 (qx ++ mw4)) (k' : Blk W g' .u32 36 (qy ++ mw4)) (h : Sl .u32 W aqx cqx qx) (h' : Sl .u32 W aqy cqy qy) => still_c13 (inf := iq) k k' h h' lqx lqy
  unfold WidePost at wk
  unfold TwinPost at twp twq
  have nu_k := fun g W (h : Blk W g .u32 36 (ks ++ mw4)) => wide_num h uk lk
  have nu_px := fun g W (h : Blk W g .u32 36 (px ++ mw4)) => wide_num h upx lpx
  have nu_py := fun g W (h : Blk W g .u32 36 (py ++ mw4)) => wide_num h upy lpy
  have nu_qx := fun g W (h : Blk W g .u32 36 (qx ++ mw4)) => wide_num h uqx lqx
  have nu_qy := fun g W (h : Blk W g .u32 36 (qy ++ mw4)) => wide_num h uqy lqy
  have nu_k2 := fun g y W (hy : 0 ≤ y ∧ y ≤ 4294967295) (h : Blk W g .u32 36 (ks.set 0 y ++ mw4)) => wide_num h (uk.set 0 hy.1 hy.2) (by rw [List.length_set]; exact lk)
  have nu_qy2 := fun g y W (hy : 0 ≤ y ∧ y ≤ 4294967295) (h : Blk W g .u32 36 (qy.set 0 y ++ mw4)) => wide_num h (uqy.set 0 hy.1 hy.2) (by rw [List.length_set]; exact lqy)
  simp only [List.length_set] at nu_k2 nu_qy2
  obtain ⟨mk, hmk⟩ : ∃ n, n = ks.length := ⟨_, rfl⟩
  obtain ⟨mpx, hmpx⟩ : ∃ n, n = px.length := ⟨_, rfl⟩
  obtain ⟨mpy, hmpy⟩ : ∃ n, n = py.length := ⟨_, rfl⟩
  obtain ⟨mqx, hmqx⟩ : ∃ n, n = qx.length := ⟨_, rfl⟩
  obtain ⟨mqy, hmqy⟩ : ∃ n, n = qy.length := ⟨_, rfl⟩
  rw [← hmk] at nk wk kk nu_k nu_k2 ⊢
  rw [← hmpx] at nP twp stp nu_px ⊢
  rw [← hmpy] at nP twp stp nu_py ⊢
  rw [← hmqx] at nQ twq stq nu_qx ⊢
  rw [← hmqy] at nQ twq stq nu_qy nu_qy2 ⊢
  have HMk := Lib.hid hmk
  have HMpx := Lib.hid hmpx
  have HMpy := Lib.hid hmpy
  have HMqx := Lib.hid hmqx
  have HMqy := Lib.hid hmqy
  have bk : mk ≤ 1048576 := by omega
  have bqy : mqy ≤ 1048576 := by omega
  clear hz hmk lk hmpx lpx hmpy lpy hmqx lqx hmqy lqy
  obtain ⟨K, hK_⟩ : ∃ K, K = val ks := ⟨_, rfl⟩
  obtain ⟨X, hX_⟩ : ∃ X, X = val px := ⟨_, rfl⟩
  obtain ⟨Y, hY_⟩ : ∃ Y, Y = val py := ⟨_, rfl⟩
  obtain ⟨X', hX'_⟩ : ∃ X', X' = val qx := ⟨_, rfl⟩
  obtain ⟨Y', hY'_⟩ : ∃ Y', Y' = val qy := ⟨_, rfl⟩
  rw [← hK_] at nk nu_k
  rw [← hX_, ← hY_] at nP
  rw [← hX'_, ← hY'_] at nQ
  rw [← hX_] at nu_px
  rw [← hY_] at nu_py
  rw [← hX'_] at nu_qx
  rw [← hY'_] at nu_qy
  clear hK_ hX_ hY_ hX'_ hY'_
  go_enter Tryd.func5, Tryd.ntmps5
  have hB := Below.refl w.heap.size w
  go_wp2_with (refine wpList_box_agg rfl 29 _ rfl [(.slice apx mpx cpx), (.slice apy mpy cpy), (.bool ip)] rfl ?_)
  intro w1 hk4 hb
  have hz_ := hB.size
  replace hB := hB.trans (hb.mono hB.size)
  clear hb
  obtain ⟨g4, hg_⟩ : ∃ g, g = w.heap.size := ⟨_, rfl⟩
  rw [← hg_] at hk4 ⊢
  have HG4 : Hid (w.heap.size ≤ g4) := Lib.hid (by rw [hg_]; exact hz_)
  clear hg_ hz_
  go_wp2_with (refine wpList_box_agg rfl 29 _ rfl [(.slice aqx mqx cqx), (.slice aqy mqy cqy), (.bool iq)] rfl ?_)
  intro w2 hk5 hb
  have hz_ := hB.size
  have lt4_ := hk4.lt
  replace hB := hB.trans (hb.mono hB.size)
  replace hk4 := hk4.keep hb
  clear hb
  obtain ⟨g5, hg_⟩ : ∃ g, g = w1.heap.size := ⟨_, rfl⟩
  rw [← hg_] at hk5 ⊢
  have HG5 : Hid (w.heap.size ≤ g5) := Lib.hid (by rw [hg_]; exact hz_)
  have NE4_5 : Hid (g4 ≠ g5) := Lib.hid (by rw [hg_]; exact Nat.ne_of_lt lt4_)
  clear hg_ hz_ lt4_
  go_wp2_with fail
  refine (wk _ (sk.below hB)).mono ?_; rintro e_ w3 ⟨gn, rfl, hge_, kn, hb⟩
  have nb_kn_4 : Hid (gn ≠ g4) := Lib.hid (by have := hk4.lt; have := hge_; omega)
  have nb_kn_5 : Hid (gn ≠ g5) := Lib.hid (by have := hk5.lt; have := hge_; omega)
  have HB_kn : Hid (w.heap.size ≤ gn) := Lib.hid (Nat.le_trans hB.size hge_)
  replace hB := hB.trans (hb.mono hB.size)
  replace hk4 := hk4.keep hb
  replace hk5 := hk5.keep hb
  clear hb hge_
  go_wp2_with (refine wpList_load_agg rfl 29 _ rfl g4 rfl _ [(.slice apx mpx cpx), (.slice apy mpy cpy), (.bool ip)] _ hk4 Tryd.underlying29 rfl size_pt ?_)
  refine (twp _ (spx.below hB) (spy.below hB)).mono ?_; rintro e_ w4 ⟨gpx, gpy, rfl, hge_, hxy_, kpx, kpy, hb⟩
  have hge2_ := Nat.le_trans hge_ (Nat.le_of_lt hxy_)
  have nb_kpx_4 : Hid (gpx ≠ g4) := Lib.hid (by have := hk4.lt; have := hge_; omega)
  have nb_kpx_5 : Hid (gpx ≠ g5) := Lib.hid (by have := hk5.lt; have := hge_; omega)
  have nbb_kn_kpx : Hid (gn ≠ gpx) := Lib.hid (by have := kn.lt; have := hge_; omega)
  have HB_kpx : Hid (w.heap.size ≤ gpx) := Lib.hid (Nat.le_trans hB.size hge_)
  have nb_kpy_4 : Hid (gpy ≠ g4) := Lib.hid (by have := hk4.lt; have := hge2_; omega)
  have nb_kpy_5 : Hid (gpy ≠ g5) := Lib.hid (by have := hk5.lt; have := hge2_; omega)
  have nbb_kn_kpy : Hid (gn ≠ gpy) := Lib.hid (by have := kn.lt; have := hge2_; omega)
  have HB_kpy : Hid (w.heap.size ≤ gpy) := Lib.hid (Nat.le_trans hB.size hge2_)
  have nbb_kpx_kpy : Hid (gpx ≠ gpy) := Lib.hid (Nat.ne_of_lt hxy_)
  replace hB := hB.trans (hb.mono hB.size)
  replace hk4 := hk4.keep hb
  replace hk5 := hk5.keep hb
  replace kn := kn.keep hb
  clear hb hge_ hge2_ hxy_
  go_wp2_with (refine wpList_alloc_agg rfl 29 rfl [(.slice none 0 0), (.slice none 0 0), (.bool false)] 3 (by kernel_rfl) ?_)
  intro w5 hk8 hb
  have hz_ := hB.size
  have lt4_ := hk4.lt
  have lt5_ := hk5.lt
  have ltb_kn := kn.lt
  have ltb_kpx := kpx.lt
  have ltb_kpy := kpy.lt
  replace hB := hB.trans (hb.mono hB.size)
  replace hk4 := hk4.keep hb
  replace hk5 := hk5.keep hb
  replace kn := kn.keep hb
  replace kpx := kpx.keep hb
  replace kpy := kpy.keep hb
  clear hb
  obtain ⟨g8, hg_⟩ : ∃ g, g = w4.heap.size := ⟨_, rfl⟩
  rw [← hg_] at hk8 ⊢
  have HG8 : Hid (w.heap.size ≤ g8) := Lib.hid (by rw [hg_]; exact hz_)
  have NE4_8 : Hid (g4 ≠ g8) := Lib.hid (by rw [hg_]; exact Nat.ne_of_lt lt4_)
  have NE5_8 : Hid (g5 ≠ g8) := Lib.hid (by rw [hg_]; exact Nat.ne_of_lt lt5_)
  have nb_kn_8 : Hid (gn ≠ g8) := Lib.hid (by rw [hg_]; exact Nat.ne_of_lt ltb_kn)
  clear ltb_kn
  have nb_kpx_8 : Hid (gpx ≠ g8) := Lib.hid (by rw [hg_]; exact Nat.ne_of_lt ltb_kpx)
  clear ltb_kpx
  have nb_kpy_8 : Hid (gpy ≠ g8) := Lib.hid (by rw [hg_]; exact Nat.ne_of_lt ltb_kpy)
  clear ltb_kpy
  clear hg_ hz_ lt4_ lt5_
  go_wp2_with (refine wpList_store_agg rfl 29 _ _ rfl g8 29 [(.slice none 0 0), (.slice none 0 0), (.bool false)] [(.slice (some ⟨gpx, 0, none⟩) mpx (mpx + 4)), (.slice (some ⟨gpy, 0, none⟩) mpy (mpy + 4)), (.bool ip)] rfl rfl hk8 size_pt (by intro v_ hv_; simp only [List.mem_cons, List.not_mem_nil, or_false] at hv_; rcases hv_ with rfl | rfl | rfl <;> rfl) rfl ?_)
  intro w6 hn hg
  replace hB := hB.grown hg hB.size (by intro k_ hk_; cases hk_; exact HG8.out)
  replace hk4 := hk4.grown hg (fun e_ => NE4_8.out (Option.some.inj e_))
  replace hk5 := hk5.grown hg (fun e_ => NE5_8.out (Option.some.inj e_))
  replace kn := kn.grown hg (fun e_ => nb_kn_8.out (Option.some.inj e_))
  replace kpx := kpx.grown hg (fun e_ => nb_kpx_8.out (Option.some.inj e_))
  replace kpy := kpy.grown hg (fun e_ => nb_kpy_8.out (Option.some.inj e_))
  replace hk8 := hn
  clear hn hg
  go_wp2_with (refine wpList_load_agg rfl 29 _ rfl g5 rfl _ [(.slice aqx mqx cqx), (.slice aqy mqy cqy), (.bool iq)] _ hk5 Tryd.underlying29 rfl size_pt ?_)
  refine (twq _ (sqx.below hB) (sqy.below hB)).mono ?_; rintro e_ w7 ⟨gqx, gqy, rfl, hge_, hxy_, kqx, kqy, hb⟩
  have hge2_ := Nat.le_trans hge_ (Nat.le_of_lt hxy_)
  have nb_kqx_4 : Hid (gqx ≠ g4) := Lib.hid (by have := hk4.lt; have := hge_; omega)
  have nb_kqx_5 : Hid (gqx ≠ g5) := Lib.hid (by have := hk5.lt; have := hge_; omega)
  have nb_kqx_8 : Hid (gqx ≠ g8) := Lib.hid (by have := hk8.lt; have := hge_; omega)
  have nbb_kn_kqx : Hid (gn ≠ gqx) := Lib.hid (by have := kn.lt; have := hge_; omega)
  have nbb_kpx_kqx : Hid (gpx ≠ gqx) := Lib.hid (by have := kpx.lt; have := hge_; omega)
  have nbb_kpy_kqx : Hid (gpy ≠ gqx) := Lib.hid (by have := kpy.lt; have := hge_; omega)
  have HB_kqx : Hid (w.heap.size ≤ gqx) := Lib.hid (Nat.le_trans hB.size hge_)
  have nb_kqy_4 : Hid (gqy ≠ g4) := Lib.hid (by have := hk4.lt; have := hge2_; omega)
  have nb_kqy_5 : Hid (gqy ≠ g5) := Lib.hid (by have := hk5.lt; have := hge2_; omega)
  have nb_kqy_8 : Hid (gqy ≠ g8) := Lib.hid (by have := hk8.lt; have := hge2_; omega)
  have nbb_kn_kqy : Hid (gn ≠ gqy) := Lib.hid (by have := kn.lt; have := hge2_; omega)
  have nbb_kpx_kqy : Hid (gpx ≠ gqy) := Lib.hid (by have := kpx.lt; have := hge2_; omega)
  have nbb_kpy_kqy : Hid (gpy ≠ gqy) := Lib.hid (by have := kpy.lt; have := hge2_; omega)
  have HB_kqy : Hid (w.heap.size ≤ gqy) := Lib.hid (Nat.le_trans hB.size hge2_)
  have nbb_kqx_kqy : Hid (gqx ≠ gqy) := Lib.hid (Nat.ne_of_lt hxy_)
  replace hB := hB.trans (hb.mono hB.size)
  replace hk4 := hk4.keep hb
  replace hk5 := hk5.keep hb
  replace kn := kn.keep hb
  replace kpx := kpx.keep hb
  replace kpy := kpy.keep hb
  replace hk8 := hk8.keep hb
  clear hb hge_ hge2_ hxy_
  go_wp2_with (refine wpList_alloc_agg rfl 29 rfl [(.slice none 0 0), (.slice none 0 0), (.bool false)] 3 (by kernel_rfl) ?_)
  intro w8 hk9 hb
  have hz_ := hB.size
  have lt4_ := hk4.lt
  have lt5_ := hk5.lt
  have lt8_ := hk8.lt
  have ltb_kn := kn.lt
  have ltb_kpx := kpx.lt
  have ltb_kpy := kpy.lt
  have ltb_kqx := kqx.lt
  have ltb_kqy := kqy.lt
  replace hB := hB.trans (hb.mono hB.size)
  replace hk4 := hk4.keep hb
  replace hk5 := hk5.keep hb
  replace kn := kn.keep hb
  replace kpx := kpx.keep hb
  replace kpy := kpy.keep hb
  replace hk8 := hk8.keep hb
  replace kqx := kqx.keep hb
  replace kqy := kqy.keep hb
  clear hb
  obtain ⟨g9, hg_⟩ : ∃ g, g = w7.heap.size := ⟨_, rfl⟩
  rw [← hg_] at hk9 ⊢
  have HG9 : Hid (w.heap.size ≤ g9) := Lib.hid (by rw [hg_]; exact hz_)
  have NE4_9 : Hid (g4 ≠ g9) := Lib.hid (by rw [hg_]; exact Nat.ne_of_lt lt4_)
  have NE5_9 : Hid (g5 ≠ g9) := Lib.hid (by rw [hg_]; exact Nat.ne_of_lt lt5_)
  have NE8_9 : Hid (g8 ≠ g9) := Lib.hid (by rw [hg_]; exact Nat.ne_of_lt lt8_)
  have nb_kn_9 : Hid (gn ≠ g9) := Lib.hid (by rw [hg_]; exact Nat.ne_of_lt ltb_kn)
  clear ltb_kn
  have nb_kpx_9 : Hid (gpx ≠ g9) := Lib.hid (by rw [hg_]; exact Nat.ne_of_lt ltb_kpx)
  clear ltb_kpx
  have nb_kpy_9 : Hid (gpy ≠ g9) := Lib.hid (by rw [hg_]; exact Nat.ne_of_lt ltb_kpy)
  clear ltb_kpy
  have nb_kqx_9 : Hid (gqx ≠ g9) := Lib.hid (by rw [hg_]; exact Nat.ne_of_lt ltb_kqx)
  clear ltb_kqx
  have nb_kqy_9 : Hid (gqy ≠ g9) := Lib.hid (by rw [hg_]; exact Nat.ne_of_lt ltb_kqy)
  clear ltb_kqy
  clear hg_ hz_ lt4_ lt5_ lt8_
  go_wp2_with (refine wpList_store_agg rfl 29 _ _ rfl g9 29 [(.slice none 0 0), (.slice none 0 0), (.bool false)] [(.slice (some ⟨gqx, 0, none⟩) mqx (mqx + 4)), (.slice (some ⟨gqy, 0, none⟩) mqy (mqy + 4)), (.bool iq)] rfl rfl hk9 size_pt (by intro v_ hv_; simp only [List.mem_cons, List.not_mem_nil, or_false] at hv_; rcases hv_ with rfl | rfl | rfl <;> rfl) rfl ?_)
  intro w9 hn hg
  replace hB := hB.grown hg hB.size (by intro k_ hk_; cases hk_; exact HG9.out)
  replace hk4 := hk4.grown hg (fun e_ => NE4_9.out (Option.some.inj e_))
  replace hk5 := hk5.grown hg (fun e_ => NE5_9.out (Option.some.inj e_))
  replace kn := kn.grown hg (fun e_ => nb_kn_9.out (Option.some.inj e_))
  replace kpx := kpx.grown hg (fun e_ => nb_kpx_9.out (Option.some.inj e_))
  replace kpy := kpy.grown hg (fun e_ => nb_kpy_9.out (Option.some.inj e_))
  replace hk8 := hk8.grown hg (fun e_ => NE8_9.out (Option.some.inj e_))
  replace kqx := kqx.grown hg (fun e_ => nb_kqx_9.out (Option.some.inj e_))
  replace kqy := kqy.grown hg (fun e_ => nb_kqy_9.out (Option.some.inj e_))
  replace hk9 := hn
  clear hn hg
  obtain ⟨A1, hA1_⟩ : ∃ r, r = addA X Y ip X' Y' iq := ⟨_, rfl⟩
  have smA1 : Small A1 := by rw [hA1_]; exact addA_small ..
  have HA1 := Lib.hid hA1_.symm
  clear hA1_
  have h_ := add_any (i := ip) (i' := iq) ⟨_, _, rfl, nu_px gpx _ kpx, nu_py gpy _ kpy⟩ ⟨_, _, rfl, nu_qx gqx _ kqx, nu_qy gqy _ kqy⟩ (tP.below hB) (tD.below hB)
  rw [HA1.out] at h_
  go_wp2_with (first | refine wpList_load_agg rfl 29 _ rfl g8 rfl _ [(.slice (some ⟨gpx, 0, none⟩) mpx (mpx + 4)), (.slice (some ⟨gpy, 0, none⟩) mpy (mpy + 4)), (.bool ip)] _ hk8 Tryd.underlying29 rfl size_pt ?_ | refine wpList_load_agg rfl 29 _ rfl g9 rfl _ [(.slice (some ⟨gqx, 0, none⟩) mqx (mqx + 4)), (.slice (some ⟨gqy, 0, none⟩) mqy (mqy + 4)), (.bool iq)] _ hk9 Tryd.underlying29 rfl size_pt ?_)
  refine (h_).mono ?_; rintro e_ w10 ⟨v23, rfl, hn, hb⟩
  obtain ⟨v23x, v23y, rfl, h1_, h2_⟩ := hn
  have off_r23x_4 := NatRes.off_new h1_ hk4.lt
  have off_r23x_5 := NatRes.off_new h1_ hk5.lt
  have off_r23x_8 := NatRes.off_new h1_ hk8.lt
  have off_r23x_9 := NatRes.off_new h1_ hk9.lt
  have off_r23y_4 := NatRes.off_new h2_ hk4.lt
  have off_r23y_5 := NatRes.off_new h2_ hk5.lt
  have off_r23y_8 := NatRes.off_new h2_ hk8.lt
  have off_r23y_9 := NatRes.off_new h2_ hk9.lt
  have r23x := h1_.mono (Nat.zero_le _)
  have r23y := h2_.mono (Nat.zero_le _)
  obtain ⟨av23x, nv23x, pv23x, rfl⟩ := (r23x.can smA1.1 (by omega)).sliced
  obtain ⟨av23y, nv23y, pv23y, rfl⟩ := (r23y.can smA1.2 (by omega)).sliced
  clear h1_ h2_
  replace hB := hB.trans (hb.mono hB.size)
  replace hk4 := hk4.keep hb
  replace hk5 := hk5.keep hb
  replace kn := kn.keep hb
  replace kpx := kpx.keep hb
  replace kpy := kpy.keep hb
  replace hk8 := hk8.keep hb
  replace kqx := kqx.keep hb
  replace kqy := kqy.keep hb
  replace hk9 := hk9.keep hb
  clear hb h_
  go_wp2_with (refine wpList_alloc_agg rfl 29 rfl [(.slice none 0 0), (.slice none 0 0), (.bool false)] 3 (by kernel_rfl) ?_)
  intro w11 hk10 hb
  have hz_ := hB.size
  have lt4_ := hk4.lt
  have lt5_ := hk5.lt
  have lt8_ := hk8.lt
  have lt9_ := hk9.lt
  have ltb_kn := kn.lt
  have ltb_kpx := kpx.lt
  have ltb_kpy := kpy.lt
  have ltb_kqx := kqx.lt
  have ltb_kqy := kqy.lt
  have off_r23x_10 := NatRes.off_old r23x
  have off_r23y_10 := NatRes.off_old r23y
  replace hB := hB.trans (hb.mono hB.size)
  replace hk4 := hk4.keep hb
  replace hk5 := hk5.keep hb
  replace kn := kn.keep hb
  replace kpx := kpx.keep hb
  replace kpy := kpy.keep hb
  replace hk8 := hk8.keep hb
  replace kqx := kqx.keep hb
  replace kqy := kqy.keep hb
  replace hk9 := hk9.keep hb
  replace r23x := r23x.below hb
  replace r23y := r23y.below hb
  clear hb
  obtain ⟨g10, hg_⟩ : ∃ g, g = w10.heap.size := ⟨_, rfl⟩
  rw [← hg_] at hk10 off_r23x_10 off_r23y_10 ⊢
  have HG10 : Hid (w.heap.size ≤ g10) := Lib.hid (by rw [hg_]; exact hz_)
  have NE4_10 : Hid (g4 ≠ g10) := Lib.hid (by rw [hg_]; exact Nat.ne_of_lt lt4_)
  have NE5_10 : Hid (g5 ≠ g10) := Lib.hid (by rw [hg_]; exact Nat.ne_of_lt lt5_)
  have NE8_10 : Hid (g8 ≠ g10) := Lib.hid (by rw [hg_]; exact Nat.ne_of_lt lt8_)
  have NE9_10 : Hid (g9 ≠ g10) := Lib.hid (by rw [hg_]; exact Nat.ne_of_lt lt9_)
  have nb_kn_10 : Hid (gn ≠ g10) := Lib.hid (by rw [hg_]; exact Nat.ne_of_lt ltb_kn)
  clear ltb_kn
  have nb_kpx_10 : Hid (gpx ≠ g10) := Lib.hid (by rw [hg_]; exact Nat.ne_of_lt ltb_kpx)
  clear ltb_kpx
  have nb_kpy_10 : Hid (gpy ≠ g10) := Lib.hid (by rw [hg_]; exact Nat.ne_of_lt ltb_kpy)
  clear ltb_kpy
  have nb_kqx_10 : Hid (gqx ≠ g10) := Lib.hid (by rw [hg_]; exact Nat.ne_of_lt ltb_kqx)
  clear ltb_kqx
  have nb_kqy_10 : Hid (gqy ≠ g10) := Lib.hid (by rw [hg_]; exact Nat.ne_of_lt ltb_kqy)
  clear ltb_kqy
  clear hg_ hz_ lt4_ lt5_ lt8_ lt9_
  go_wp2_with (refine wpList_store_agg rfl 29 _ _ rfl g10 29 [(.slice none 0 0), (.slice none 0 0), (.bool false)] [(.slice av23x nv23x pv23x), (.slice av23y nv23y pv23y), (.bool false)] rfl rfl hk10 size_pt (by intro v_ hv_; simp only [List.mem_cons, List.not_mem_nil, or_false] at hv_; rcases hv_ with rfl | rfl | rfl <;> first | rfl | exact (r23x.can smA1.1 (by omega)).one_cell | exact (r23y.can smA1.2 (by omega)).one_cell) rfl ?_)
  intro w12 hn hg
  replace hB := hB.grown hg hB.size (by intro k_ hk_; cases hk_; exact HG10.out)
  replace hk4 := hk4.grown hg (fun e_ => NE4_10.out (Option.some.inj e_))
  replace hk5 := hk5.grown hg (fun e_ => NE5_10.out (Option.some.inj e_))
  replace kn := kn.grown hg (fun e_ => nb_kn_10.out (Option.some.inj e_))
  replace kpx := kpx.grown hg (fun e_ => nb_kpx_10.out (Option.some.inj e_))
  replace kpy := kpy.grown hg (fun e_ => nb_kpy_10.out (Option.some.inj e_))
  replace hk8 := hk8.grown hg (fun e_ => NE8_10.out (Option.some.inj e_))
  replace kqx := kqx.grown hg (fun e_ => nb_kqx_10.out (Option.some.inj e_))
  replace kqy := kqy.grown hg (fun e_ => nb_kqy_10.out (Option.some.inj e_))
  replace hk9 := hk9.grown hg (fun e_ => NE9_10.out (Option.some.inj e_))
  replace r23x := r23x.off off_r23x_10 hg
  replace r23y := r23y.off off_r23y_10 hg
  replace hk10 := hn
  clear hn hg
  have h_ := radd_any (i := ip) (i' := iq) (nP.below hB) (nQ.below hB)
  rw [HA1.out] at h_
  go_wp2_with (first | refine wpList_load_agg rfl 29 _ rfl g4 rfl _ [(.slice apx mpx cpx), (.slice apy mpy cpy), (.bool ip)] _ hk4 Tryd.underlying29 rfl size_pt ?_ | refine wpList_load_agg rfl 29 _ rfl g5 rfl _ [(.slice aqx mqx cqx), (.slice aqy mqy cqy), (.bool iq)] _ hk5 Tryd.underlying29 rfl size_pt ?_)
  refine (h_).mono ?_; rintro e_ w13 ⟨v29, rfl, hn, hb⟩
  obtain ⟨v29x, v29y, rfl, h1_, h2_⟩ := hn
  have off_r29x_4 := NatRes.off_new h1_ hk4.lt
  have off_r29x_5 := NatRes.off_new h1_ hk5.lt
  have off_r29x_8 := NatRes.off_new h1_ hk8.lt
  have off_r29x_9 := NatRes.off_new h1_ hk9.lt
  have off_r29x_10 := NatRes.off_new h1_ hk10.lt
  have off_r29y_4 := NatRes.off_new h2_ hk4.lt
  have off_r29y_5 := NatRes.off_new h2_ hk5.lt
  have off_r29y_8 := NatRes.off_new h2_ hk8.lt
  have off_r29y_9 := NatRes.off_new h2_ hk9.lt
  have off_r29y_10 := NatRes.off_new h2_ hk10.lt
  have r29x := h1_.mono (Nat.zero_le _)
  have r29y := h2_.mono (Nat.zero_le _)
  obtain ⟨av29x, nv29x, pv29x, rfl⟩ := (r29x.can smA1.1 (by omega)).sliced
  obtain ⟨av29y, nv29y, pv29y, rfl⟩ := (r29y.can smA1.2 (by omega)).sliced
  clear h1_ h2_
  replace hB := hB.trans (hb.mono hB.size)
  replace hk4 := hk4.keep hb
  replace hk5 := hk5.keep hb
  replace kn := kn.keep hb
  replace kpx := kpx.keep hb
  replace kpy := kpy.keep hb
  replace hk8 := hk8.keep hb
  replace kqx := kqx.keep hb
  replace kqy := kqy.keep hb
  replace hk9 := hk9.keep hb
  replace r23x := r23x.below hb
  replace r23y := r23y.below hb
  replace hk10 := hk10.keep hb
  clear hb h_
  go_wp2_with (refine wpList_alloc_agg rfl 29 rfl [(.slice none 0 0), (.slice none 0 0), (.bool false)] 3 (by kernel_rfl) ?_)
  intro w14 hk12 hb
  have hz_ := hB.size
  have lt4_ := hk4.lt
  have lt5_ := hk5.lt
  have lt8_ := hk8.lt
  have lt9_ := hk9.lt
  have lt10_ := hk10.lt
  have ltb_kn := kn.lt
  have ltb_kpx := kpx.lt
  have ltb_kpy := kpy.lt
  have ltb_kqx := kqx.lt
  have ltb_kqy := kqy.lt
  have off_r23x_12 := NatRes.off_old r23x
  have off_r23y_12 := NatRes.off_old r23y
  have off_r29x_12 := NatRes.off_old r29x
  have off_r29y_12 := NatRes.off_old r29y
  replace hB := hB.trans (hb.mono hB.size)
  replace hk4 := hk4.keep hb
  replace hk5 := hk5.keep hb
  replace kn := kn.keep hb
  replace kpx := kpx.keep hb
  replace kpy := kpy.keep hb
  replace hk8 := hk8.keep hb
  replace kqx := kqx.keep hb
  replace kqy := kqy.keep hb
  replace hk9 := hk9.keep hb
  replace r23x := r23x.below hb
  replace r23y := r23y.below hb
  replace hk10 := hk10.keep hb
  replace r29x := r29x.below hb
  replace r29y := r29y.below hb
  clear hb
  obtain ⟨g12, hg_⟩ : ∃ g, g = w13.heap.size := ⟨_, rfl⟩
  rw [← hg_] at hk12 off_r23x_12 off_r23y_12 off_r29x_12 off_r29y_12 ⊢
  have HG12 : Hid (w.heap.size ≤ g12) := Lib.hid (by rw [hg_]; exact hz_)
  have NE4_12 : Hid (g4 ≠ g12) := Lib.hid (by rw [hg_]; exact Nat.ne_of_lt lt4_)
  have NE5_12 : Hid (g5 ≠ g12) := Lib.hid (by rw [hg_]; exact Nat.ne_of_lt lt5_)
  have NE8_12 : Hid (g8 ≠ g12) := Lib.hid (by rw [hg_]; exact Nat.ne_of_lt lt8_)
  have NE9_12 : Hid (g9 ≠ g12) := Lib.hid (by rw [hg_]; exact Nat.ne_of_lt lt9_)
  have NE10_12 : Hid (g10 ≠ g12) := Lib.hid (by rw [hg_]; exact Nat.ne_of_lt lt10_)
  have nb_kn_12 : Hid (gn ≠ g12) := Lib.hid (by rw [hg_]; exact Nat.ne_of_lt ltb_kn)
  clear ltb_kn
  have nb_kpx_12 : Hid (gpx ≠ g12) := Lib.hid (by rw [hg_]; exact Nat.ne_of_lt ltb_kpx)
  clear ltb_kpx
  have nb_kpy_12 : Hid (gpy ≠ g12) := Lib.hid (by rw [hg_]; exact Nat.ne_of_lt ltb_kpy)
  clear ltb_kpy
  have nb_kqx_12 : Hid (gqx ≠ g12) := Lib.hid (by rw [hg_]; exact Nat.ne_of_lt ltb_kqx)
  clear ltb_kqx
  have nb_kqy_12 : Hid (gqy ≠ g12) := Lib.hid (by rw [hg_]; exact Nat.ne_of_lt ltb_kqy)
  clear ltb_kqy
  clear hg_ hz_ lt4_ lt5_ lt8_ lt9_ lt10_
  go_wp2_with (refine wpList_store_agg rfl 29 _ _ rfl g12 29 [(.slice none 0 0), (.slice none 0 0), (.bool false)] [(.slice av29x nv29x pv29x), (.slice av29y nv29y pv29y), (.bool false)] rfl rfl hk12 size_pt (by intro v_ hv_; simp only [List.mem_cons, List.not_mem_nil, or_false] at hv_; rcases hv_ with rfl | rfl | rfl <;> first | rfl | exact (r29x.can smA1.1 (by omega)).one_cell | exact (r29y.can smA1.2 (by omega)).one_cell) rfl ?_)
  intro w15 hn hg
  replace hB := hB.grown hg hB.size (by intro k_ hk_; cases hk_; exact HG12.out)
  replace hk4 := hk4.grown hg (fun e_ => NE4_12.out (Option.some.inj e_))
  replace hk5 := hk5.grown hg (fun e_ => NE5_12.out (Option.some.inj e_))
  replace kn := kn.grown hg (fun e_ => nb_kn_12.out (Option.some.inj e_))
  replace kpx := kpx.grown hg (fun e_ => nb_kpx_12.out (Option.some.inj e_))
  replace kpy := kpy.grown hg (fun e_ => nb_kpy_12.out (Option.some.inj e_))
  replace hk8 := hk8.grown hg (fun e_ => NE8_12.out (Option.some.inj e_))
  replace kqx := kqx.grown hg (fun e_ => nb_kqx_12.out (Option.some.inj e_))
  replace kqy := kqy.grown hg (fun e_ => nb_kqy_12.out (Option.some.inj e_))
  replace hk9 := hk9.grown hg (fun e_ => NE9_12.out (Option.some.inj e_))
  replace r23x := r23x.off off_r23x_12 hg
  replace r23y := r23y.off off_r23y_12 hg
  replace hk10 := hk10.grown hg (fun e_ => NE10_12.out (Option.some.inj e_))
  replace r29x := r29x.off off_r29x_12 hg
  replace r29y := r29y.off off_r29y_12 hg
  replace hk12 := hn
  clear hn hg
  have hcc_ : (A1.1 != A1.1) = false := by simp
  have hcd_ : (A1.1 == A1.1) = true := by simp
  have h_ := one_c ⟨_, _, rfl, (r23x.can smA1.1 (by omega)), (r23y.can smA1.2 (by omega))⟩ ⟨_, _, rfl, (r29x.can smA1.1 (by omega)), (r29y.can smA1.2 (by omega))⟩
  rw [show decide (A1.2.1 = A1.2.1 ∧ A1.2.2 = A1.2.2) = true from decide_eq_true ⟨rfl, rfl⟩] at h_
  have q0_ := hk10.cell 0 rfl
  have q1_ := hk10.cell 1 rfl
  have q2_ := hk10.cell 2 rfl
  have q3_ := hk12.cell 0 rfl
  have q4_ := hk12.cell 1 rfl
  have q5_ := hk12.cell 2 rfl
  go_wp2_with fail
  refine (h_).mono ?_; rintro e_ w16 ⟨rfl, hb⟩
  clear q0_ q1_ q2_ q3_ q4_ q5_
  replace hB := hB.trans (hb.mono hB.size)
  replace hk4 := hk4.keep hb
  replace hk5 := hk5.keep hb
  replace kn := kn.keep hb
  replace kpx := kpx.keep hb
  replace kpy := kpy.keep hb
  replace hk8 := hk8.keep hb
  replace kqx := kqx.keep hb
  replace kqy := kqy.keep hb
  replace hk9 := hk9.keep hb
  replace r23x := r23x.below hb
  replace r23y := r23y.below hb
  replace hk10 := hk10.keep hb
  replace r29x := r29x.below hb
  replace r29y := r29y.below hb
  replace hk12 := hk12.keep hb
  clear hb h_
  clear hcc_ hcd_
  clear r23x
  clear r23y
  clear r29x
  clear r29y
  obtain ⟨A2, hA2_⟩ : ∃ r, r = mulA K X Y ip := ⟨_, rfl⟩
  have smA2 : Small A2 := by rw [hA2_]; exact mulA_small ..
  have HA2 := Lib.hid hA2_.symm
  clear hA2_
  have h_ := mul_any (i := ip) (nu_k gn _ kn) ⟨_, _, rfl, nu_px gpx _ kpx, nu_py gpy _ kpy⟩ (tP.below hB) (tD.below hB)
  rw [HA2.out] at h_
  go_wp2_with (refine wpList_load_agg rfl 29 _ rfl g8 rfl _ [(.slice (some ⟨gpx, 0, none⟩) mpx (mpx + 4)), (.slice (some ⟨gpy, 0, none⟩) mpy (mpy + 4)), (.bool ip)] _ hk8 Tryd.underlying29 rfl size_pt ?_)
  refine (h_).mono ?_; rintro e_ w17 ⟨v44, rfl, hn, hb⟩
  obtain ⟨v44x, v44y, rfl, h1_, h2_⟩ := hn
  have off_r44x_4 := NatRes.off_new h1_ hk4.lt
  have off_r44x_5 := NatRes.off_new h1_ hk5.lt
  have off_r44x_8 := NatRes.off_new h1_ hk8.lt
  have off_r44x_9 := NatRes.off_new h1_ hk9.lt
  have off_r44x_10 := NatRes.off_new h1_ hk10.lt
  have off_r44x_12 := NatRes.off_new h1_ hk12.lt
  have off_r44y_4 := NatRes.off_new h2_ hk4.lt
  have off_r44y_5 := NatRes.off_new h2_ hk5.lt
  have off_r44y_8 := NatRes.off_new h2_ hk8.lt
  have off_r44y_9 := NatRes.off_new h2_ hk9.lt
  have off_r44y_10 := NatRes.off_new h2_ hk10.lt
  have off_r44y_12 := NatRes.off_new h2_ hk12.lt
  have r44x := h1_.mono (Nat.zero_le _)
  have r44y := h2_.mono (Nat.zero_le _)
  obtain ⟨av44x, nv44x, pv44x, rfl⟩ := (r44x.can smA2.1 (by omega)).sliced
  obtain ⟨av44y, nv44y, pv44y, rfl⟩ := (r44y.can smA2.2 (by omega)).sliced
  clear h1_ h2_
  replace hB := hB.trans (hb.mono hB.size)
  replace hk4 := hk4.keep hb
  replace hk5 := hk5.keep hb
  replace kn := kn.keep hb
  replace kpx := kpx.keep hb
  replace kpy := kpy.keep hb
  replace hk8 := hk8.keep hb
  replace kqx := kqx.keep hb
  replace kqy := kqy.keep hb
  replace hk9 := hk9.keep hb
  replace hk10 := hk10.keep hb
  replace hk12 := hk12.keep hb
  clear hb h_
  go_wp2_with (refine wpList_store_agg rfl 29 _ _ rfl g10 29 [(.slice av23x nv23x pv23x), (.slice av23y nv23y pv23y), (.bool false)] [(.slice av44x nv44x pv44x), (.slice av44y nv44y pv44y), (.bool false)] rfl rfl hk10 size_pt (by intro v_ hv_; simp only [List.mem_cons, List.not_mem_nil, or_false] at hv_; rcases hv_ with rfl | rfl | rfl <;> first | rfl | exact (r44x.can smA2.1 (by omega)).one_cell | exact (r44y.can smA2.2 (by omega)).one_cell) rfl ?_)
  intro w18 hn hg
  replace hB := hB.grown hg hB.size (by intro k_ hk_; cases hk_; exact HG10.out)
  replace hk4 := hk4.grown hg (fun e_ => NE4_10.out (Option.some.inj e_))
  replace hk5 := hk5.grown hg (fun e_ => NE5_10.out (Option.some.inj e_))
  replace kn := kn.grown hg (fun e_ => nb_kn_10.out (Option.some.inj e_))
  replace kpx := kpx.grown hg (fun e_ => nb_kpx_10.out (Option.some.inj e_))
  replace kpy := kpy.grown hg (fun e_ => nb_kpy_10.out (Option.some.inj e_))
  replace hk8 := hk8.grown hg (fun e_ => NE8_10.out (Option.some.inj e_))
  replace kqx := kqx.grown hg (fun e_ => nb_kqx_10.out (Option.some.inj e_))
  replace kqy := kqy.grown hg (fun e_ => nb_kqy_10.out (Option.some.inj e_))
  replace hk9 := hk9.grown hg (fun e_ => NE9_10.out (Option.some.inj e_))
  replace hk10 := hn
  replace hk12 := hk12.grown hg (fun e_ => NE10_12.out (Option.some.inj e_).symm)
  replace r44x := r44x.off off_r44x_10 hg
  replace r44y := r44y.off off_r44y_10 hg
  clear hn hg
  have h_ := rmul_any (i := ip) (nk.below hB) (nP.below hB)
  rw [HA2.out] at h_
  go_wp2_with (refine wpList_load_agg rfl 29 _ rfl g4 rfl _ [(.slice apx mpx cpx), (.slice apy mpy cpy), (.bool ip)] _ hk4 Tryd.underlying29 rfl size_pt ?_)
  refine (h_).mono ?_; rintro e_ w19 ⟨v50, rfl, hn, hb⟩
  obtain ⟨v50x, v50y, rfl, h1_, h2_⟩ := hn
  have off_r50x_4 := NatRes.off_new h1_ hk4.lt
  have off_r50x_5 := NatRes.off_new h1_ hk5.lt
  have off_r50x_8 := NatRes.off_new h1_ hk8.lt
  have off_r50x_9 := NatRes.off_new h1_ hk9.lt
  have off_r50x_10 := NatRes.off_new h1_ hk10.lt
  have off_r50x_12 := NatRes.off_new h1_ hk12.lt
  have off_r50y_4 := NatRes.off_new h2_ hk4.lt
  have off_r50y_5 := NatRes.off_new h2_ hk5.lt
  have off_r50y_8 := NatRes.off_new h2_ hk8.lt
  have off_r50y_9 := NatRes.off_new h2_ hk9.lt
  have off_r50y_10 := NatRes.off_new h2_ hk10.lt
  have off_r50y_12 := NatRes.off_new h2_ hk12.lt
  have r50x := h1_.mono (Nat.zero_le _)
  have r50y := h2_.mono (Nat.zero_le _)
  obtain ⟨av50x, nv50x, pv50x, rfl⟩ := (r50x.can smA2.1 (by omega)).sliced
  obtain ⟨av50y, nv50y, pv50y, rfl⟩ := (r50y.can smA2.2 (by omega)).sliced
  clear h1_ h2_
  replace hB := hB.trans (hb.mono hB.size)
  replace hk4 := hk4.keep hb
  replace hk5 := hk5.keep hb
  replace kn := kn.keep hb
  replace kpx := kpx.keep hb
  replace kpy := kpy.keep hb
  replace hk8 := hk8.keep hb
  replace kqx := kqx.keep hb
  replace kqy := kqy.keep hb
  replace hk9 := hk9.keep hb
  replace hk10 := hk10.keep hb
  replace hk12 := hk12.keep hb
  replace r44x := r44x.below hb
  replace r44y := r44y.below hb
  clear hb h_
  go_wp2_with (refine wpList_store_agg rfl 29 _ _ rfl g12 29 [(.slice av29x nv29x pv29x), (.slice av29y nv29y pv29y), (.bool false)] [(.slice av50x nv50x pv50x), (.slice av50y nv50y pv50y), (.bool false)] rfl rfl hk12 size_pt (by intro v_ hv_; simp only [List.mem_cons, List.not_mem_nil, or_false] at hv_; rcases hv_ with rfl | rfl | rfl <;> first | rfl | exact (r50x.can smA2.1 (by omega)).one_cell | exact (r50y.can smA2.2 (by omega)).one_cell) rfl ?_)
  intro w20 hn hg
  replace hB := hB.grown hg hB.size (by intro k_ hk_; cases hk_; exact HG12.out)
  replace hk4 := hk4.grown hg (fun e_ => NE4_12.out (Option.some.inj e_))
  replace hk5 := hk5.grown hg (fun e_ => NE5_12.out (Option.some.inj e_))
  replace kn := kn.grown hg (fun e_ => nb_kn_12.out (Option.some.inj e_))
  replace kpx := kpx.grown hg (fun e_ => nb_kpx_12.out (Option.some.inj e_))
  replace kpy := kpy.grown hg (fun e_ => nb_kpy_12.out (Option.some.inj e_))
  replace hk8 := hk8.grown hg (fun e_ => NE8_12.out (Option.some.inj e_))
  replace kqx := kqx.grown hg (fun e_ => nb_kqx_12.out (Option.some.inj e_))
  replace kqy := kqy.grown hg (fun e_ => nb_kqy_12.out (Option.some.inj e_))
  replace hk9 := hk9.grown hg (fun e_ => NE9_12.out (Option.some.inj e_))
  replace hk10 := hk10.grown hg (fun e_ => NE10_12.out (Option.some.inj e_))
  replace hk12 := hn
  replace r44x := r44x.off off_r44x_12 hg
  replace r44y := r44y.off off_r44y_12 hg
  replace r50x := r50x.off off_r50x_12 hg
  replace r50y := r50y.off off_r50y_12 hg
  clear hn hg
  have hcc_ : (A2.1 != A2.1) = false := by simp
  have hcd_ : (A2.1 == A2.1) = true := by simp
  have h_ := one_c ⟨_, _, rfl, (r44x.can smA2.1 (by omega)), (r44y.can smA2.2 (by omega))⟩ ⟨_, _, rfl, (r50x.can smA2.1 (by omega)), (r50y.can smA2.2 (by omega))⟩
  rw [show decide (A2.2.1 = A2.2.1 ∧ A2.2.2 = A2.2.2) = true from decide_eq_true ⟨rfl, rfl⟩] at h_
  have q0_ := hk10.cell 0 rfl
  have q1_ := hk10.cell 1 rfl
  have q2_ := hk10.cell 2 rfl
  have q3_ := hk12.cell 0 rfl
  have q4_ := hk12.cell 1 rfl
  have q5_ := hk12.cell 2 rfl
  go_wp2_with fail
  refine (h_).mono ?_; rintro e_ w21 ⟨rfl, hb⟩
  clear q0_ q1_ q2_ q3_ q4_ q5_
  replace hB := hB.trans (hb.mono hB.size)
  replace hk4 := hk4.keep hb
  replace hk5 := hk5.keep hb
  replace kn := kn.keep hb
  replace kpx := kpx.keep hb
  replace kpy := kpy.keep hb
  replace hk8 := hk8.keep hb
  replace kqx := kqx.keep hb
  replace kqy := kqy.keep hb
  replace hk9 := hk9.keep hb
  replace hk10 := hk10.keep hb
  replace hk12 := hk12.keep hb
  replace r44x := r44x.below hb
  replace r44y := r44y.below hb
  replace r50x := r50x.below hb
  replace r50y := r50y.below hb
  clear hb h_
  clear hcc_ hcd_
  clear r44x
  clear r44y
  clear r50x
  clear r50y
  go_wp2_with fail
  refine (kk gn _ kn (sk.below hB)).mono ?_; rintro e_ w22 ⟨rfl, hb⟩
  replace hB := hB.trans (hb.mono hB.size)
  replace hk4 := hk4.keep hb
  replace hk5 := hk5.keep hb
  replace kn := kn.keep hb
  replace kpx := kpx.keep hb
  replace kpy := kpy.keep hb
  replace hk8 := hk8.keep hb
  replace kqx := kqx.keep hb
  replace kqy := kqy.keep hb
  replace hk9 := hk9.keep hb
  replace hk10 := hk10.keep hb
  replace hk12 := hk12.keep hb
  clear hb
  have q0_ := hk8.cell 0 rfl
  have q1_ := hk8.cell 1 rfl
  have q2_ := hk8.cell 2 rfl
  have q3_ := hk4.cell 0 rfl
  have q4_ := hk4.cell 1 rfl
  have q5_ := hk4.cell 2 rfl
  go_wp2_with fail
  refine (stp gpx gpy _ kpx kpy (spx.below hB) (spy.below hB)).mono ?_; rintro e_ w23 ⟨rfl, hb⟩
  clear q0_ q1_ q2_ q3_ q4_ q5_
  replace hB := hB.trans (hb.mono hB.size)
  replace hk4 := hk4.keep hb
  replace hk5 := hk5.keep hb
  replace kn := kn.keep hb
  replace kpx := kpx.keep hb
  replace kpy := kpy.keep hb
  replace hk8 := hk8.keep hb
  replace kqx := kqx.keep hb
  replace kqy := kqy.keep hb
  replace hk9 := hk9.keep hb
  replace hk10 := hk10.keep hb
  replace hk12 := hk12.keep hb
  clear hb
  have q0_ := hk9.cell 0 rfl
  have q1_ := hk9.cell 1 rfl
  have q2_ := hk9.cell 2 rfl
  have q3_ := hk5.cell 0 rfl
  have q4_ := hk5.cell 1 rfl
  have q5_ := hk5.cell 2 rfl
  go_wp2_with fail
  refine (stq gqx gqy _ kqx kqy (sqx.below hB) (sqy.below hB)).mono ?_; rintro e_ w24 ⟨rfl, hb⟩
  clear q0_ q1_ q2_ q3_ q4_ q5_
  replace hB := hB.trans (hb.mono hB.size)
  replace hk4 := hk4.keep hb
  replace hk5 := hk5.keep hb
  replace kn := kn.keep hb
  replace kpx := kpx.keep hb
  replace kpy := kpy.keep hb
  replace hk8 := hk8.keep hb
  replace kqx := kqx.keep hb
  replace kqy := kqy.keep hb
  replace hk9 := hk9.keep hb
  replace hk10 := hk10.keep hb
  replace hk12 := hk12.keep hb
  clear hb
  by_cases hk0 : 0 < mk
  · skip
    have hd0 : decide ((0 : Int) < (mk : Int)) = true := decide_eq_true (by omega)
    have hk1_ : (0 : Int) < (mk : Int) := by omega
    have b0 := kn.cell 0 (by rw [List.length_append, ← HMk.out]; omega)
    have bf := kn.free 0
    obtain ⟨x0, hx0⟩ : ∃ x, x = nth (ks ++ mw4) 0 := ⟨_, rfl⟩
    rw [← hx0] at b0
    have xry0 := xor_u32_rng x0 1
    obtain ⟨y0, hy0_⟩ : ∃ y, y = bits .xor .u32 x0 1 := ⟨_, rfl⟩
    rw [← hy0_] at xry0
    have eqs := hy0_.symm
    have ks_ := kn.set 0 y0
    rw [List.set_append_left _ _ (by rw [← HMk.out]; assumption)] at ks_
    clear hx0 hy0_
    obtain ⟨K2, hK2⟩ : ∃ k, k = val (ks.set 0 y0) := ⟨_, rfl⟩
    have nk2 := fun W (h : Blk W gn .u32 36 (ks.set 0 y0 ++ mw4)) => nu_k2 gn y0 W xry0 h
    rw [← hK2] at nk2
    clear hK2 hk0
    replace hB := hB.setCell (p := ⟨gn, 0, none⟩) HB_kn.out (.int .u32 y0)
    replace hk4 := hk4.other (Ne.symm nb_kn_4.out) 0 (.int .u32 y0)
    replace hk5 := hk5.other (Ne.symm nb_kn_5.out) 0 (.int .u32 y0)
    replace kpx := kpx.other (Ne.symm nbb_kn_kpx.out) 0 (.int .u32 y0)
    replace kpy := kpy.other (Ne.symm nbb_kn_kpy.out) 0 (.int .u32 y0)
    replace hk8 := hk8.other (Ne.symm nb_kn_8.out) 0 (.int .u32 y0)
    replace kqx := kqx.other (Ne.symm nbb_kn_kqx.out) 0 (.int .u32 y0)
    replace kqy := kqy.other (Ne.symm nbb_kn_kqy.out) 0 (.int .u32 y0)
    replace hk9 := hk9.other (Ne.symm nb_kn_9.out) 0 (.int .u32 y0)
    replace hk10 := hk10.other (Ne.symm nb_kn_10.out) 0 (.int .u32 y0)
    replace hk12 := hk12.other (Ne.symm nb_kn_12.out) 0 (.int .u32 y0)
    replace kn := ks_
    clear ks_
    obtain ⟨A3, hA3_⟩ : ∃ r, r = mulA K2 X Y ip := ⟨_, rfl⟩
    have smA3 : Small A3 := by rw [hA3_]; exact mulA_small ..
    have HA3 := Lib.hid hA3_.symm
    clear hA3_
    have h_ := rmul_any (i := ip) (nk2 _ kn) (nP.below hB)
    rw [HA3.out] at h_
    go_wp2_with (refine wpList_load_agg rfl 29 _ rfl g4 rfl _ [(.slice apx mpx cpx), (.slice apy mpy cpy), (.bool ip)] _ hk4 Tryd.underlying29 rfl size_pt ?_)
    refine (h_).mono ?_; rintro e_ w25 ⟨v92, rfl, hn, hb⟩
    obtain ⟨v92x, v92y, rfl, h1_, h2_⟩ := hn
    have off_r92x_4 := NatRes.off_new h1_ hk4.lt
    have off_r92x_5 := NatRes.off_new h1_ hk5.lt
    have off_r92x_8 := NatRes.off_new h1_ hk8.lt
    have off_r92x_9 := NatRes.off_new h1_ hk9.lt
    have off_r92x_10 := NatRes.off_new h1_ hk10.lt
    have off_r92x_12 := NatRes.off_new h1_ hk12.lt
    have off_r92y_4 := NatRes.off_new h2_ hk4.lt
    have off_r92y_5 := NatRes.off_new h2_ hk5.lt
    have off_r92y_8 := NatRes.off_new h2_ hk8.lt
    have off_r92y_9 := NatRes.off_new h2_ hk9.lt
    have off_r92y_10 := NatRes.off_new h2_ hk10.lt
    have off_r92y_12 := NatRes.off_new h2_ hk12.lt
    have r92x := h1_.mono (Nat.zero_le _)
    have r92y := h2_.mono (Nat.zero_le _)
    obtain ⟨av92x, nv92x, pv92x, rfl⟩ := (r92x.can smA3.1 (by omega)).sliced
    obtain ⟨av92y, nv92y, pv92y, rfl⟩ := (r92y.can smA3.2 (by omega)).sliced
    clear h1_ h2_
    replace hB := hB.trans (hb.mono hB.size)
    replace hk4 := hk4.keep hb
    replace hk5 := hk5.keep hb
    replace kn := kn.keep hb
    replace kpx := kpx.keep hb
    replace kpy := kpy.keep hb
    replace hk8 := hk8.keep hb
    replace kqx := kqx.keep hb
    replace kqy := kqy.keep hb
    replace hk9 := hk9.keep hb
    replace hk10 := hk10.keep hb
    replace hk12 := hk12.keep hb
    clear hb h_
    go_wp2_with (refine wpList_store_agg rfl 29 _ _ rfl g12 29 [(.slice av50x nv50x pv50x), (.slice av50y nv50y pv50y), (.bool false)] [(.slice av92x nv92x pv92x), (.slice av92y nv92y pv92y), (.bool false)] rfl rfl hk12 size_pt (by intro v_ hv_; simp only [List.mem_cons, List.not_mem_nil, or_false] at hv_; rcases hv_ with rfl | rfl | rfl <;> first | rfl | exact (r92x.can smA3.1 (by omega)).one_cell | exact (r92y.can smA3.2 (by omega)).one_cell) rfl ?_)
    intro w26 hn hg
    replace hB := hB.grown hg hB.size (by intro k_ hk_; cases hk_; exact HG12.out)
    replace hk4 := hk4.grown hg (fun e_ => NE4_12.out (Option.some.inj e_))
    replace hk5 := hk5.grown hg (fun e_ => NE5_12.out (Option.some.inj e_))
    replace kn := kn.grown hg (fun e_ => nb_kn_12.out (Option.some.inj e_))
    replace kpx := kpx.grown hg (fun e_ => nb_kpx_12.out (Option.some.inj e_))
    replace kpy := kpy.grown hg (fun e_ => nb_kpy_12.out (Option.some.inj e_))
    replace hk8 := hk8.grown hg (fun e_ => NE8_12.out (Option.some.inj e_))
    replace kqx := kqx.grown hg (fun e_ => nb_kqx_12.out (Option.some.inj e_))
    replace kqy := kqy.grown hg (fun e_ => nb_kqy_12.out (Option.some.inj e_))
    replace hk9 := hk9.grown hg (fun e_ => NE9_12.out (Option.some.inj e_))
    replace hk10 := hk10.grown hg (fun e_ => NE10_12.out (Option.some.inj e_))
    replace hk12 := hn
    replace r92x := r92x.off off_r92x_12 hg
    replace r92y := r92y.off off_r92y_12 hg
    clear hn hg
    have h_ := mul_any (i := ip) (nk2 _ kn) ⟨_, _, rfl, nu_px gpx _ kpx, nu_py gpy _ kpy⟩ (tP.below hB) (tD.below hB)
    rw [HA3.out] at h_
    go_wp2_with (refine wpList_load_agg rfl 29 _ rfl g8 rfl _ [(.slice (some ⟨gpx, 0, none⟩) mpx (mpx + 4)), (.slice (some ⟨gpy, 0, none⟩) mpy (mpy + 4)), (.bool ip)] _ hk8 Tryd.underlying29 rfl size_pt ?_)
    refine (h_).mono ?_; rintro e_ w27 ⟨v98, rfl, hn, hb⟩
    obtain ⟨v98x, v98y, rfl, h1_, h2_⟩ := hn
    have off_r98x_4 := NatRes.off_new h1_ hk4.lt
    have off_r98x_5 := NatRes.off_new h1_ hk5.lt
    have off_r98x_8 := NatRes.off_new h1_ hk8.lt
    have off_r98x_9 := NatRes.off_new h1_ hk9.lt
    have off_r98x_10 := NatRes.off_new h1_ hk10.lt
    have off_r98x_12 := NatRes.off_new h1_ hk12.lt
    have off_r98y_4 := NatRes.off_new h2_ hk4.lt
    have off_r98y_5 := NatRes.off_new h2_ hk5.lt
    have off_r98y_8 := NatRes.off_new h2_ hk8.lt
    have off_r98y_9 := NatRes.off_new h2_ hk9.lt
    have off_r98y_10 := NatRes.off_new h2_ hk10.lt
    have off_r98y_12 := NatRes.off_new h2_ hk12.lt
    have r98x := h1_.mono (Nat.zero_le _)
    have r98y := h2_.mono (Nat.zero_le _)
    obtain ⟨av98x, nv98x, pv98x, rfl⟩ := (r98x.can smA3.1 (by omega)).sliced
    obtain ⟨av98y, nv98y, pv98y, rfl⟩ := (r98y.can smA3.2 (by omega)).sliced
    clear h1_ h2_
    replace hB := hB.trans (hb.mono hB.size)
    replace hk4 := hk4.keep hb
    replace hk5 := hk5.keep hb
    replace kn := kn.keep hb
    replace kpx := kpx.keep hb
    replace kpy := kpy.keep hb
    replace hk8 := hk8.keep hb
    replace kqx := kqx.keep hb
    replace kqy := kqy.keep hb
    replace hk9 := hk9.keep hb
    replace hk10 := hk10.keep hb
    replace hk12 := hk12.keep hb
    replace r92x := r92x.below hb
    replace r92y := r92y.below hb
    clear hb h_
    go_wp2_with (refine wpList_store_agg rfl 29 _ _ rfl g10 29 [(.slice av44x nv44x pv44x), (.slice av44y nv44y pv44y), (.bool false)] [(.slice av98x nv98x pv98x), (.slice av98y nv98y pv98y), (.bool false)] rfl rfl hk10 size_pt (by intro v_ hv_; simp only [List.mem_cons, List.not_mem_nil, or_false] at hv_; rcases hv_ with rfl | rfl | rfl <;> first | rfl | exact (r98x.can smA3.1 (by omega)).one_cell | exact (r98y.can smA3.2 (by omega)).one_cell) rfl ?_)
    intro w28 hn hg
    replace hB := hB.grown hg hB.size (by intro k_ hk_; cases hk_; exact HG10.out)
    replace hk4 := hk4.grown hg (fun e_ => NE4_10.out (Option.some.inj e_))
    replace hk5 := hk5.grown hg (fun e_ => NE5_10.out (Option.some.inj e_))
    replace kn := kn.grown hg (fun e_ => nb_kn_10.out (Option.some.inj e_))
    replace kpx := kpx.grown hg (fun e_ => nb_kpx_10.out (Option.some.inj e_))
    replace kpy := kpy.grown hg (fun e_ => nb_kpy_10.out (Option.some.inj e_))
    replace hk8 := hk8.grown hg (fun e_ => NE8_10.out (Option.some.inj e_))
    replace kqx := kqx.grown hg (fun e_ => nb_kqx_10.out (Option.some.inj e_))
    replace kqy := kqy.grown hg (fun e_ => nb_kqy_10.out (Option.some.inj e_))
    replace hk9 := hk9.grown hg (fun e_ => NE9_10.out (Option.some.inj e_))
    replace hk10 := hn
    replace hk12 := hk12.grown hg (fun e_ => NE10_12.out (Option.some.inj e_).symm)
    replace r92x := r92x.off off_r92x_10 hg
    replace r92y := r92y.off off_r92y_10 hg
    replace r98x := r98x.off off_r98x_10 hg
    replace r98y := r98y.off off_r98y_10 hg
    clear hn hg
    have hcc_ : (A3.1 != A3.1) = false := by simp
    have hcd_ : (A3.1 == A3.1) = true := by simp
    have h_ := one_c ⟨_, _, rfl, (r98x.can smA3.1 (by omega)), (r98y.can smA3.2 (by omega))⟩ ⟨_, _, rfl, (r92x.can smA3.1 (by omega)), (r92y.can smA3.2 (by omega))⟩
    rw [show decide (A3.2.1 = A3.2.1 ∧ A3.2.2 = A3.2.2) = true from decide_eq_true ⟨rfl, rfl⟩] at h_
    have q0_ := hk10.cell 0 rfl
    have q1_ := hk10.cell 1 rfl
    have q2_ := hk10.cell 2 rfl
    have q3_ := hk12.cell 0 rfl
    have q4_ := hk12.cell 1 rfl
    have q5_ := hk12.cell 2 rfl
    go_wp2_with fail
    refine (h_).mono ?_; rintro e_ w29 ⟨rfl, hb⟩
    clear q0_ q1_ q2_ q3_ q4_ q5_
    replace hB := hB.trans (hb.mono hB.size)
    replace hk4 := hk4.keep hb
    replace hk5 := hk5.keep hb
    replace kn := kn.keep hb
    replace kpx := kpx.keep hb
    replace kpy := kpy.keep hb
    replace hk8 := hk8.keep hb
    replace kqx := kqx.keep hb
    replace kqy := kqy.keep hb
    replace hk9 := hk9.keep hb
    replace hk10 := hk10.keep hb
    replace hk12 := hk12.keep hb
    replace r92x := r92x.below hb
    replace r92y := r92y.below hb
    replace r98x := r98x.below hb
    replace r98y := r98y.below hb
    clear hb h_
    clear hcc_ hcd_
    clear r92x
    clear r92y
    clear r98x
    clear r98y
    by_cases hy0 : 0 < mqy
    · skip
      have hd0 : decide ((0 : Int) < (mqy : Int)) = true := decide_eq_true (by omega)
      have hy1 : (0 : Int) < (mqy : Int) := by omega
      have b0 := kqy.cell 0 (by rw [List.length_append, ← HMqy.out]; omega)
      have bf := kqy.free 0
      obtain ⟨x1, hx0⟩ : ∃ x, x = nth (qy ++ mw4) 0 := ⟨_, rfl⟩
      rw [← hx0] at b0
      have xry1 := xor_u32_rng x1 1
      obtain ⟨y1, hy0_⟩ : ∃ y, y = bits .xor .u32 x1 1 := ⟨_, rfl⟩
      rw [← hy0_] at xry1
      have eqs := hy0_.symm
      have ks_ := kqy.set 0 y1
      rw [List.set_append_left _ _ (by rw [← HMqy.out]; assumption)] at ks_
      clear hx0 hy0_
      obtain ⟨Y2, hY2⟩ : ∃ y, y = val (qy.set 0 y1) := ⟨_, rfl⟩
      have nqy2 := fun W (h : Blk W gqy .u32 36 (qy.set 0 y1 ++ mw4)) => nu_qy2 gqy y1 W xry1 h
      rw [← hY2] at nqy2
      clear hY2 hy0
      have q0_ := hk9.cell 1 rfl
      go_wp2_with fail
      go_region
      clear q0_ b0 bf eqs
      replace hB := hB.setCell (p := ⟨gqy, 0, none⟩) HB_kqy.out (.int .u32 y1)
      replace hk4 := hk4.other (Ne.symm nb_kqy_4.out) 0 (.int .u32 y1)
      replace hk5 := hk5.other (Ne.symm nb_kqy_5.out) 0 (.int .u32 y1)
      replace kn := kn.other nbb_kn_kqy.out 0 (.int .u32 y1)
      replace kpx := kpx.other nbb_kpx_kqy.out 0 (.int .u32 y1)
      replace kpy := kpy.other nbb_kpy_kqy.out 0 (.int .u32 y1)
      replace hk8 := hk8.other (Ne.symm nb_kqy_8.out) 0 (.int .u32 y1)
      replace kqx := kqx.other nbb_kqx_kqy.out 0 (.int .u32 y1)
      replace hk9 := hk9.other (Ne.symm nb_kqy_9.out) 0 (.int .u32 y1)
      replace hk10 := hk10.other (Ne.symm nb_kqy_10.out) 0 (.int .u32 y1)
      replace hk12 := hk12.other (Ne.symm nb_kqy_12.out) 0 (.int .u32 y1)
      replace kqy := ks_
      clear ks_
      have hb := below_drewN (Below.refl (World.heap (World.setCell w29 ⟨gqy, 0, none⟩ (.int .u32 y1))).size (World.setCell w29 ⟨gqy, 0, none⟩ (.int .u32 y1))) 1
      obtain ⟨w30, hw_⟩ : ∃ x, x = World.drew (World.setCell w29 ⟨gqy, 0, none⟩ (.int .u32 y1)) := ⟨_, rfl⟩
      rw [show World.drewN (World.setCell w29 ⟨gqy, 0, none⟩ (.int .u32 y1)) 1 = w30 from hw_.symm] at hb
      rw [← hw_]
      clear hw_
      replace hB := hB.trans (hb.mono hB.size)
      replace hk4 := hk4.keep hb
      replace hk5 := hk5.keep hb
      replace kn := kn.keep hb
      replace kpx := kpx.keep hb
      replace kpy := kpy.keep hb
      replace hk8 := hk8.keep hb
      replace kqx := kqx.keep hb
      replace kqy := kqy.keep hb
      replace hk9 := hk9.keep hb
      replace hk10 := hk10.keep hb
      replace hk12 := hk12.keep hb
      clear hb
      obtain ⟨A4, hA4_⟩ : ∃ r, r = addA X Y ip X' Y2 iq := ⟨_, rfl⟩
      have smA4 : Small A4 := by rw [hA4_]; exact addA_small ..
      have HA4 := Lib.hid hA4_.symm
      clear hA4_
      have h_ := radd_any (i := ip) (i' := iq) (nP.below hB) ⟨_, _, rfl, nu_qx gqx _ kqx, nqy2 _ kqy⟩
      rw [HA4.out] at h_
      go_wp2_with (first | refine wpList_load_agg rfl 29 _ rfl g4 rfl _ [(.slice apx mpx cpx), (.slice apy mpy cpy), (.bool ip)] _ hk4 Tryd.underlying29 rfl size_pt ?_ | refine wpList_load_agg rfl 29 _ rfl g9 rfl _ [(.slice (some ⟨gqx, 0, none⟩) mqx (mqx + 4)), (.slice (some ⟨gqy, 0, none⟩) mqy (mqy + 4)), (.bool iq)] _ hk9 Tryd.underlying29 rfl size_pt ?_)
      refine (h_).mono ?_; rintro e_ w31 ⟨v125, rfl, hn, hb⟩
      obtain ⟨v125x, v125y, rfl, h1_, h2_⟩ := hn
      have off_r125x_4 := NatRes.off_new h1_ hk4.lt
      have off_r125x_5 := NatRes.off_new h1_ hk5.lt
      have off_r125x_8 := NatRes.off_new h1_ hk8.lt
      have off_r125x_9 := NatRes.off_new h1_ hk9.lt
      have off_r125x_10 := NatRes.off_new h1_ hk10.lt
      have off_r125x_12 := NatRes.off_new h1_ hk12.lt
      have off_r125y_4 := NatRes.off_new h2_ hk4.lt
      have off_r125y_5 := NatRes.off_new h2_ hk5.lt
      have off_r125y_8 := NatRes.off_new h2_ hk8.lt
      have off_r125y_9 := NatRes.off_new h2_ hk9.lt
      have off_r125y_10 := NatRes.off_new h2_ hk10.lt
      have off_r125y_12 := NatRes.off_new h2_ hk12.lt
      have r125x := h1_.mono (Nat.zero_le _)
      have r125y := h2_.mono (Nat.zero_le _)
      obtain ⟨av125x, nv125x, pv125x, rfl⟩ := (r125x.can smA4.1 (by omega)).sliced
      obtain ⟨av125y, nv125y, pv125y, rfl⟩ := (r125y.can smA4.2 (by omega)).sliced
      clear h1_ h2_
      replace hB := hB.trans (hb.mono hB.size)
      replace hk4 := hk4.keep hb
      replace hk5 := hk5.keep hb
      replace kn := kn.keep hb
      replace kpx := kpx.keep hb
      replace kpy := kpy.keep hb
      replace hk8 := hk8.keep hb
      replace kqx := kqx.keep hb
      replace kqy := kqy.keep hb
      replace hk9 := hk9.keep hb
      replace hk10 := hk10.keep hb
      replace hk12 := hk12.keep hb
      clear hb h_
      go_wp2_with (refine wpList_store_agg rfl 29 _ _ rfl g12 29 [(.slice av92x nv92x pv92x), (.slice av92y nv92y pv92y), (.bool false)] [(.slice av125x nv125x pv125x), (.slice av125y nv125y pv125y), (.bool false)] rfl rfl hk12 size_pt (by intro v_ hv_; simp only [List.mem_cons, List.not_mem_nil, or_false] at hv_; rcases hv_ with rfl | rfl | rfl <;> first | rfl | exact (r125x.can smA4.1 (by omega)).one_cell | exact (r125y.can smA4.2 (by omega)).one_cell) rfl ?_)
      intro w32 hn hg
      replace hB := hB.grown hg hB.size (by intro k_ hk_; cases hk_; exact HG12.out)
      replace hk4 := hk4.grown hg (fun e_ => NE4_12.out (Option.some.inj e_))
      replace hk5 := hk5.grown hg (fun e_ => NE5_12.out (Option.some.inj e_))
      replace kn := kn.grown hg (fun e_ => nb_kn_12.out (Option.some.inj e_))
      replace kpx := kpx.grown hg (fun e_ => nb_kpx_12.out (Option.some.inj e_))
      replace kpy := kpy.grown hg (fun e_ => nb_kpy_12.out (Option.some.inj e_))
      replace hk8 := hk8.grown hg (fun e_ => NE8_12.out (Option.some.inj e_))
      replace kqx := kqx.grown hg (fun e_ => nb_kqx_12.out (Option.some.inj e_))
      replace kqy := kqy.grown hg (fun e_ => nb_kqy_12.out (Option.some.inj e_))
      replace hk9 := hk9.grown hg (fun e_ => NE9_12.out (Option.some.inj e_))
      replace hk10 := hk10.grown hg (fun e_ => NE10_12.out (Option.some.inj e_))
      replace hk12 := hn
      replace r125x := r125x.off off_r125x_12 hg
      replace r125y := r125y.off off_r125y_12 hg
      clear hn hg
      have h_ := add_any (i := ip) (i' := iq) ⟨_, _, rfl, nu_px gpx _ kpx, nu_py gpy _ kpy⟩ ⟨_, _, rfl, nu_qx gqx _ kqx, nqy2 _ kqy⟩ (tP.below hB) (tD.below hB)
      rw [HA4.out] at h_
      go_wp2_with (first | refine wpList_load_agg rfl 29 _ rfl g8 rfl _ [(.slice (some ⟨gpx, 0, none⟩) mpx (mpx + 4)), (.slice (some ⟨gpy, 0, none⟩) mpy (mpy + 4)), (.bool ip)] _ hk8 Tryd.underlying29 rfl size_pt ?_ | refine wpList_load_agg rfl 29 _ rfl g9 rfl _ [(.slice (some ⟨gqx, 0, none⟩) mqx (mqx + 4)), (.slice (some ⟨gqy, 0, none⟩) mqy (mqy + 4)), (.bool iq)] _ hk9 Tryd.underlying29 rfl size_pt ?_)
      refine (h_).mono ?_; rintro e_ w33 ⟨v131, rfl, hn, hb⟩
      obtain ⟨v131x, v131y, rfl, h1_, h2_⟩ := hn
      have off_r131x_4 := NatRes.off_new h1_ hk4.lt
      have off_r131x_5 := NatRes.off_new h1_ hk5.lt
      have off_r131x_8 := NatRes.off_new h1_ hk8.lt
      have off_r131x_9 := NatRes.off_new h1_ hk9.lt
      have off_r131x_10 := NatRes.off_new h1_ hk10.lt
      have off_r131x_12 := NatRes.off_new h1_ hk12.lt
      have off_r131y_4 := NatRes.off_new h2_ hk4.lt
      have off_r131y_5 := NatRes.off_new h2_ hk5.lt
      have off_r131y_8 := NatRes.off_new h2_ hk8.lt
      have off_r131y_9 := NatRes.off_new h2_ hk9.lt
      have off_r131y_10 := NatRes.off_new h2_ hk10.lt
      have off_r131y_12 := NatRes.off_new h2_ hk12.lt
      have r131x := h1_.mono (Nat.zero_le _)
      have r131y := h2_.mono (Nat.zero_le _)
      obtain ⟨av131x, nv131x, pv131x, rfl⟩ := (r131x.can smA4.1 (by omega)).sliced
      obtain ⟨av131y, nv131y, pv131y, rfl⟩ := (r131y.can smA4.2 (by omega)).sliced
      clear h1_ h2_
      replace hB := hB.trans (hb.mono hB.size)
      replace hk4 := hk4.keep hb
      replace hk5 := hk5.keep hb
      replace kn := kn.keep hb
      replace kpx := kpx.keep hb
      replace kpy := kpy.keep hb
      replace hk8 := hk8.keep hb
      replace kqx := kqx.keep hb
      replace kqy := kqy.keep hb
      replace hk9 := hk9.keep hb
      replace hk10 := hk10.keep hb
      replace hk12 := hk12.keep hb
      replace r125x := r125x.below hb
      replace r125y := r125y.below hb
      clear hb h_
      go_wp2_with (refine wpList_store_agg rfl 29 _ _ rfl g10 29 [(.slice av98x nv98x pv98x), (.slice av98y nv98y pv98y), (.bool false)] [(.slice av131x nv131x pv131x), (.slice av131y nv131y pv131y), (.bool false)] rfl rfl hk10 size_pt (by intro v_ hv_; simp only [List.mem_cons, List.not_mem_nil, or_false] at hv_; rcases hv_ with rfl | rfl | rfl <;> first | rfl | exact (r131x.can smA4.1 (by omega)).one_cell | exact (r131y.can smA4.2 (by omega)).one_cell) rfl ?_)
      intro w34 hn hg
      replace hB := hB.grown hg hB.size (by intro k_ hk_; cases hk_; exact HG10.out)
      replace hk4 := hk4.grown hg (fun e_ => NE4_10.out (Option.some.inj e_))
      replace hk5 := hk5.grown hg (fun e_ => NE5_10.out (Option.some.inj e_))
      replace kn := kn.grown hg (fun e_ => nb_kn_10.out (Option.some.inj e_))
      replace kpx := kpx.grown hg (fun e_ => nb_kpx_10.out (Option.some.inj e_))
      replace kpy := kpy.grown hg (fun e_ => nb_kpy_10.out (Option.some.inj e_))
      replace hk8 := hk8.grown hg (fun e_ => NE8_10.out (Option.some.inj e_))
      replace kqx := kqx.grown hg (fun e_ => nb_kqx_10.out (Option.some.inj e_))
      replace kqy := kqy.grown hg (fun e_ => nb_kqy_10.out (Option.some.inj e_))
      replace hk9 := hk9.grown hg (fun e_ => NE9_10.out (Option.some.inj e_))
      replace hk10 := hn
      replace hk12 := hk12.grown hg (fun e_ => NE10_12.out (Option.some.inj e_).symm)
      replace r125x := r125x.off off_r125x_10 hg
      replace r125y := r125y.off off_r125y_10 hg
      replace r131x := r131x.off off_r131x_10 hg
      replace r131y := r131y.off off_r131y_10 hg
      clear hn hg
      have hcc_ : (A4.1 != A4.1) = false := by simp
      have hcd_ : (A4.1 == A4.1) = true := by simp
      have h_ := one_c ⟨_, _, rfl, (r131x.can smA4.1 (by omega)), (r131y.can smA4.2 (by omega))⟩ ⟨_, _, rfl, (r125x.can smA4.1 (by omega)), (r125y.can smA4.2 (by omega))⟩
      rw [show decide (A4.2.1 = A4.2.1 ∧ A4.2.2 = A4.2.2) = true from decide_eq_true ⟨rfl, rfl⟩] at h_
      have q0_ := hk10.cell 0 rfl
      have q1_ := hk10.cell 1 rfl
      have q2_ := hk10.cell 2 rfl
      have q3_ := hk12.cell 0 rfl
      have q4_ := hk12.cell 1 rfl
      have q5_ := hk12.cell 2 rfl
      go_wp2_with fail
      refine (h_).mono ?_; rintro e_ w35 ⟨rfl, hb⟩
      clear q0_ q1_ q2_ q3_ q4_ q5_
      replace hB := hB.trans (hb.mono hB.size)
      replace hk4 := hk4.keep hb
      replace hk5 := hk5.keep hb
      replace kn := kn.keep hb
      replace kpx := kpx.keep hb
      replace kpy := kpy.keep hb
      replace hk8 := hk8.keep hb
      replace kqx := kqx.keep hb
      replace kqy := kqy.keep hb
      replace hk9 := hk9.keep hb
      replace hk10 := hk10.keep hb
      replace hk12 := hk12.keep hb
      replace r125x := r125x.below hb
      replace r125y := r125y.below hb
      replace r131x := r131x.below hb
      replace r131y := r131y.below hb
      clear hb h_
      clear hcc_ hcd_
      go_wp2_with fail
      go_ret
      exact ⟨by first | done | rfl | simp, hB⟩
    · skip
      have hd0 : decide ((0 : Int) < (mqy : Int)) = false := decide_eq_false (by omega)
      have hy1 : ¬ (0 : Int) < (mqy : Int) := by omega
      have q0_ := hk9.cell 1 rfl
      obtain ⟨A4, hA4_⟩ : ∃ r, r = addA X Y ip X' Y' iq := ⟨_, rfl⟩
      have smA4 : Small A4 := by rw [hA4_]; exact addA_small ..
      have HA4 := Lib.hid hA4_.symm
      clear hA4_
      have h_ := radd_any (i := ip) (i' := iq) (nP.below hB) ⟨_, _, rfl, nu_qx gqx _ kqx, nu_qy gqy _ kqy⟩
      rw [HA4.out] at h_
      go_wp2_with (first | refine wpList_load_agg rfl 29 _ rfl g4 rfl _ [(.slice apx mpx cpx), (.slice apy mpy cpy), (.bool ip)] _ hk4 Tryd.underlying29 rfl size_pt ?_ | refine wpList_load_agg rfl 29 _ rfl g9 rfl _ [(.slice (some ⟨gqx, 0, none⟩) mqx (mqx + 4)), (.slice (some ⟨gqy, 0, none⟩) mqy (mqy + 4)), (.bool iq)] _ hk9 Tryd.underlying29 rfl size_pt ?_)
      refine (h_).mono ?_; rintro e_ w30 ⟨v125, rfl, hn, hb⟩
      obtain ⟨v125x, v125y, rfl, h1_, h2_⟩ := hn
      have off_r125x_4 := NatRes.off_new h1_ hk4.lt
      have off_r125x_5 := NatRes.off_new h1_ hk5.lt
      have off_r125x_8 := NatRes.off_new h1_ hk8.lt
      have off_r125x_9 := NatRes.off_new h1_ hk9.lt
      have off_r125x_10 := NatRes.off_new h1_ hk10.lt
      have off_r125x_12 := NatRes.off_new h1_ hk12.lt
      have off_r125y_4 := NatRes.off_new h2_ hk4.lt
      have off_r125y_5 := NatRes.off_new h2_ hk5.lt
      have off_r125y_8 := NatRes.off_new h2_ hk8.lt
      have off_r125y_9 := NatRes.off_new h2_ hk9.lt
      have off_r125y_10 := NatRes.off_new h2_ hk10.lt
      have off_r125y_12 := NatRes.off_new h2_ hk12.lt
      have r125x := h1_.mono (Nat.zero_le _)
      have r125y := h2_.mono (Nat.zero_le _)
      obtain ⟨av125x, nv125x, pv125x, rfl⟩ := (r125x.can smA4.1 (by omega)).sliced
      obtain ⟨av125y, nv125y, pv125y, rfl⟩ := (r125y.can smA4.2 (by omega)).sliced
      clear h1_ h2_
      replace hB := hB.trans (hb.mono hB.size)
      replace hk4 := hk4.keep hb
      replace hk5 := hk5.keep hb
      replace kn := kn.keep hb
      replace kpx := kpx.keep hb
      replace kpy := kpy.keep hb
      replace hk8 := hk8.keep hb
      replace kqx := kqx.keep hb
      replace kqy := kqy.keep hb
      replace hk9 := hk9.keep hb
      replace hk10 := hk10.keep hb
      replace hk12 := hk12.keep hb
      clear hb h_
      go_wp2_with (refine wpList_store_agg rfl 29 _ _ rfl g12 29 [(.slice av92x nv92x pv92x), (.slice av92y nv92y pv92y), (.bool false)] [(.slice av125x nv125x pv125x), (.slice av125y nv125y pv125y), (.bool false)] rfl rfl hk12 size_pt (by intro v_ hv_; simp only [List.mem_cons, List.not_mem_nil, or_false] at hv_; rcases hv_ with rfl | rfl | rfl <;> first | rfl | exact (r125x.can smA4.1 (by omega)).one_cell | exact (r125y.can smA4.2 (by omega)).one_cell) rfl ?_)
      intro w31 hn hg
      replace hB := hB.grown hg hB.size (by intro k_ hk_; cases hk_; exact HG12.out)
      replace hk4 := hk4.grown hg (fun e_ => NE4_12.out (Option.some.inj e_))
      replace hk5 := hk5.grown hg (fun e_ => NE5_12.out (Option.some.inj e_))
      replace kn := kn.grown hg (fun e_ => nb_kn_12.out (Option.some.inj e_))
      replace kpx := kpx.grown hg (fun e_ => nb_kpx_12.out (Option.some.inj e_))
      replace kpy := kpy.grown hg (fun e_ => nb_kpy_12.out (Option.some.inj e_))
      replace hk8 := hk8.grown hg (fun e_ => NE8_12.out (Option.some.inj e_))
      replace kqx := kqx.grown hg (fun e_ => nb_kqx_12.out (Option.some.inj e_))
      replace kqy := kqy.grown hg (fun e_ => nb_kqy_12.out (Option.some.inj e_))
      replace hk9 := hk9.grown hg (fun e_ => NE9_12.out (Option.some.inj e_))
      replace hk10 := hk10.grown hg (fun e_ => NE10_12.out (Option.some.inj e_))
      replace hk12 := hn
      replace r125x := r125x.off off_r125x_12 hg
      replace r125y := r125y.off off_r125y_12 hg
      clear hn hg
      have h_ := add_any (i := ip) (i' := iq) ⟨_, _, rfl, nu_px gpx _ kpx, nu_py gpy _ kpy⟩ ⟨_, _, rfl, nu_qx gqx _ kqx, nu_qy gqy _ kqy⟩ (tP.below hB) (tD.below hB)
      rw [HA4.out] at h_
      go_wp2_with (first | refine wpList_load_agg rfl 29 _ rfl g8 rfl _ [(.slice (some ⟨gpx, 0, none⟩) mpx (mpx + 4)), (.slice (some ⟨gpy, 0, none⟩) mpy (mpy + 4)), (.bool ip)] _ hk8 Tryd.underlying29 rfl size_pt ?_ | refine wpList_load_agg rfl 29 _ rfl g9 rfl _ [(.slice (some ⟨gqx, 0, none⟩) mqx (mqx + 4)), (.slice (some ⟨gqy, 0, none⟩) mqy (mqy + 4)), (.bool iq)] _ hk9 Tryd.underlying29 rfl size_pt ?_)
      refine (h_).mono ?_; rintro e_ w32 ⟨v131, rfl, hn, hb⟩
      obtain ⟨v131x, v131y, rfl, h1_, h2_⟩ := hn
      have off_r131x_4 := NatRes.off_new h1_ hk4.lt
      have off_r131x_5 := NatRes.off_new h1_ hk5.lt
      have off_r131x_8 := NatRes.off_new h1_ hk8.lt
      have off_r131x_9 := NatRes.off_new h1_ hk9.lt
      have off_r131x_10 := NatRes.off_new h1_ hk10.lt
      have off_r131x_12 := NatRes.off_new h1_ hk12.lt
      have off_r131y_4 := NatRes.off_new h2_ hk4.lt
      have off_r131y_5 := NatRes.off_new h2_ hk5.lt
      have off_r131y_8 := NatRes.off_new h2_ hk8.lt
      have off_r131y_9 := NatRes.off_new h2_ hk9.lt
      have off_r131y_10 := NatRes.off_new h2_ hk10.lt
      have off_r131y_12 := NatRes.off_new h2_ hk12.lt
      have r131x := h1_.mono (Nat.zero_le _)
      have r131y := h2_.mono (Nat.zero_le _)
      obtain ⟨av131x, nv131x, pv131x, rfl⟩ := (r131x.can smA4.1 (by omega)).sliced
      obtain ⟨av131y, nv131y, pv131y, rfl⟩ := (r131y.can smA4.2 (by omega)).sliced
      clear h1_ h2_
      replace hB := hB.trans (hb.mono hB.size)
      replace hk4 := hk4.keep hb
      replace hk5 := hk5.keep hb
      replace kn := kn.keep hb
      replace kpx := kpx.keep hb
      replace kpy := kpy.keep hb
      replace hk8 := hk8.keep hb
      replace kqx := kqx.keep hb
      replace kqy := kqy.keep hb
      replace hk9 := hk9.keep hb
      replace hk10 := hk10.keep hb
      replace hk12 := hk12.keep hb
      replace r125x := r125x.below hb
      replace r125y := r125y.below hb
      clear hb h_
      go_wp2_with (refine wpList_store_agg rfl 29 _ _ rfl g10 29 [(.slice av98x nv98x pv98x), (.slice av98y nv98y pv98y), (.bool false)] [(.slice av131x nv131x pv131x), (.slice av131y nv131y pv131y), (.bool false)] rfl rfl hk10 size_pt (by intro v_ hv_; simp only [List.mem_cons, List.not_mem_nil, or_false] at hv_; rcases hv_ with rfl | rfl | rfl <;> first | rfl | exact (r131x.can smA4.1 (by omega)).one_cell | exact (r131y.can smA4.2 (by omega)).one_cell) rfl ?_)
      intro w33 hn hg
      replace hB := hB.grown hg hB.size (by intro k_ hk_; cases hk_; exact HG10.out)
      replace hk4 := hk4.grown hg (fun e_ => NE4_10.out (Option.some.inj e_))
      replace hk5 := hk5.grown hg (fun e_ => NE5_10.out (Option.some.inj e_))
      replace kn := kn.grown hg (fun e_ => nb_kn_10.out (Option.some.inj e_))
      replace kpx := kpx.grown hg (fun e_ => nb_kpx_10.out (Option.some.inj e_))
      replace kpy := kpy.grown hg (fun e_ => nb_kpy_10.out (Option.some.inj e_))
      replace hk8 := hk8.grown hg (fun e_ => NE8_10.out (Option.some.inj e_))
      replace kqx := kqx.grown hg (fun e_ => nb_kqx_10.out (Option.some.inj e_))
      replace kqy := kqy.grown hg (fun e_ => nb_kqy_10.out (Option.some.inj e_))
      replace hk9 := hk9.grown hg (fun e_ => NE9_10.out (Option.some.inj e_))
      replace hk10 := hn
      replace hk12 := hk12.grown hg (fun e_ => NE10_12.out (Option.some.inj e_).symm)
      replace r125x := r125x.off off_r125x_10 hg
      replace r125y := r125y.off off_r125y_10 hg
      replace r131x := r131x.off off_r131x_10 hg
      replace r131y := r131y.off off_r131y_10 hg
      clear hn hg
      have hcc_ : (A4.1 != A4.1) = false := by simp
      have hcd_ : (A4.1 == A4.1) = true := by simp
      have h_ := one_c ⟨_, _, rfl, (r131x.can smA4.1 (by omega)), (r131y.can smA4.2 (by omega))⟩ ⟨_, _, rfl, (r125x.can smA4.1 (by omega)), (r125y.can smA4.2 (by omega))⟩
      rw [show decide (A4.2.1 = A4.2.1 ∧ A4.2.2 = A4.2.2) = true from decide_eq_true ⟨rfl, rfl⟩] at h_
      have q0_ := hk10.cell 0 rfl
      have q1_ := hk10.cell 1 rfl
      have q2_ := hk10.cell 2 rfl
      have q3_ := hk12.cell 0 rfl
      have q4_ := hk12.cell 1 rfl
      have q5_ := hk12.cell 2 rfl
      go_wp2_with fail
      refine (h_).mono ?_; rintro e_ w34 ⟨rfl, hb⟩
      clear q0_ q1_ q2_ q3_ q4_ q5_
      replace hB := hB.trans (hb.mono hB.size)
      replace hk4 := hk4.keep hb
      replace hk5 := hk5.keep hb
      replace kn := kn.keep hb
      replace kpx := kpx.keep hb
      replace kpy := kpy.keep hb
      replace hk8 := hk8.keep hb
      replace kqx := kqx.keep hb
      replace kqy := kqy.keep hb
      replace hk9 := hk9.keep hb
      replace hk10 := hk10.keep hb
      replace hk12 := hk12.keep hb
      replace r125x := r125x.below hb
      replace r125y := r125y.below hb
      replace r131x := r131x.below hb
      replace r131y := r131y.below hb
      clear hb h_
      clear hcc_ hcd_
      go_wp2_with fail
      go_ret
      exact ⟨by first | done | rfl | simp, hB⟩
  · skip
    have hd0 : decide ((0 : Int) < (mk : Int)) = false := decide_eq_false (by omega)
    have hk1_ : ¬ (0 : Int) < (mk : Int) := by omega
    obtain ⟨A3, hA3_⟩ : ∃ r, r = mulA K X Y ip := ⟨_, rfl⟩
    have smA3 : Small A3 := by rw [hA3_]; exact mulA_small ..
    have HA3 := Lib.hid hA3_.symm
    clear hA3_
    have h_ := rmul_any (i := ip) (nu_k gn _ kn) (nP.below hB)
    rw [HA3.out] at h_
    go_wp2_with (refine wpList_load_agg rfl 29 _ rfl g4 rfl _ [(.slice apx mpx cpx), (.slice apy mpy cpy), (.bool ip)] _ hk4 Tryd.underlying29 rfl size_pt ?_)
    refine (h_).mono ?_; rintro e_ w25 ⟨v92, rfl, hn, hb⟩
    obtain ⟨v92x, v92y, rfl, h1_, h2_⟩ := hn
    have off_r92x_4 := NatRes.off_new h1_ hk4.lt
    have off_r92x_5 := NatRes.off_new h1_ hk5.lt
    have off_r92x_8 := NatRes.off_new h1_ hk8.lt
    have off_r92x_9 := NatRes.off_new h1_ hk9.lt
    have off_r92x_10 := NatRes.off_new h1_ hk10.lt
    have off_r92x_12 := NatRes.off_new h1_ hk12.lt
    have off_r92y_4 := NatRes.off_new h2_ hk4.lt
    have off_r92y_5 := NatRes.off_new h2_ hk5.lt
    have off_r92y_8 := NatRes.off_new h2_ hk8.lt
    have off_r92y_9 := NatRes.off_new h2_ hk9.lt
    have off_r92y_10 := NatRes.off_new h2_ hk10.lt
    have off_r92y_12 := NatRes.off_new h2_ hk12.lt
    have r92x := h1_.mono (Nat.zero_le _)
    have r92y := h2_.mono (Nat.zero_le _)
    obtain ⟨av92x, nv92x, pv92x, rfl⟩ := (r92x.can smA3.1 (by omega)).sliced
    obtain ⟨av92y, nv92y, pv92y, rfl⟩ := (r92y.can smA3.2 (by omega)).sliced
    clear h1_ h2_
    replace hB := hB.trans (hb.mono hB.size)
    replace hk4 := hk4.keep hb
    replace hk5 := hk5.keep hb
    replace kn := kn.keep hb
    replace kpx := kpx.keep hb
    replace kpy := kpy.keep hb
    replace hk8 := hk8.keep hb
    replace kqx := kqx.keep hb
    replace kqy := kqy.keep hb
    replace hk9 := hk9.keep hb
    replace hk10 := hk10.keep hb
    replace hk12 := hk12.keep hb
    clear hb h_
    go_wp2_with (refine wpList_store_agg rfl 29 _ _ rfl g12 29 [(.slice av50x nv50x pv50x), (.slice av50y nv50y pv50y), (.bool false)] [(.slice av92x nv92x pv92x), (.slice av92y nv92y pv92y), (.bool false)] rfl rfl hk12 size_pt (by intro v_ hv_; simp only [List.mem_cons, List.not_mem_nil, or_false] at hv_; rcases hv_ with rfl | rfl | rfl <;> first | rfl | exact (r92x.can smA3.1 (by omega)).one_cell | exact (r92y.can smA3.2 (by omega)).one_cell) rfl ?_)
    intro w26 hn hg
    replace hB := hB.grown hg hB.size (by intro k_ hk_; cases hk_; exact HG12.out)
    replace hk4 := hk4.grown hg (fun e_ => NE4_12.out (Option.some.inj e_))
    replace hk5 := hk5.grown hg (fun e_ => NE5_12.out (Option.some.inj e_))
    replace kn := kn.grown hg (fun e_ => nb_kn_12.out (Option.some.inj e_))
    replace kpx := kpx.grown hg (fun e_ => nb_kpx_12.out (Option.some.inj e_))
    replace kpy := kpy.grown hg (fun e_ => nb_kpy_12.out (Option.some.inj e_))
    replace hk8 := hk8.grown hg (fun e_ => NE8_12.out (Option.some.inj e_))
    replace kqx := kqx.grown hg (fun e_ => nb_kqx_12.out (Option.some.inj e_))
    replace kqy := kqy.grown hg (fun e_ => nb_kqy_12.out (Option.some.inj e_))
    replace hk9 := hk9.grown hg (fun e_ => NE9_12.out (Option.some.inj e_))
    replace hk10 := hk10.grown hg (fun e_ => NE10_12.out (Option.some.inj e_))
    replace hk12 := hn
    replace r92x := r92x.off off_r92x_12 hg
    replace r92y := r92y.off off_r92y_12 hg
    clear hn hg
    have h_ := mul_any (i := ip) (nu_k gn _ kn) ⟨_, _, rfl, nu_px gpx _ kpx, nu_py gpy _ kpy⟩ (tP.below hB) (tD.below hB)
    rw [HA3.out] at h_
    go_wp2_with (refine wpList_load_agg rfl 29 _ rfl g8 rfl _ [(.slice (some ⟨gpx, 0, none⟩) mpx (mpx + 4)), (.slice (some ⟨gpy, 0, none⟩) mpy (mpy + 4)), (.bool ip)] _ hk8 Tryd.underlying29 rfl size_pt ?_)
    refine (h_).mono ?_; rintro e_ w27 ⟨v98, rfl, hn, hb⟩
    obtain ⟨v98x, v98y, rfl, h1_, h2_⟩ := hn
    have off_r98x_4 := NatRes.off_new h1_ hk4.lt
    have off_r98x_5 := NatRes.off_new h1_ hk5.lt
    have off_r98x_8 := NatRes.off_new h1_ hk8.lt
    have off_r98x_9 := NatRes.off_new h1_ hk9.lt
    have off_r98x_10 := NatRes.off_new h1_ hk10.lt
    have off_r98x_12 := NatRes.off_new h1_ hk12.lt
    have off_r98y_4 := NatRes.off_new h2_ hk4.lt
    have off_r98y_5 := NatRes.off_new h2_ hk5.lt
    have off_r98y_8 := NatRes.off_new h2_ hk8.lt
    have off_r98y_9 := NatRes.off_new h2_ hk9.lt
    have off_r98y_10 := NatRes.off_new h2_ hk10.lt
    have off_r98y_12 := NatRes.off_new h2_ hk12.lt
    have r98x := h1_.mono (Nat.zero_le _)
    have r98y := h2_.mono (Nat.zero_le _)
    obtain ⟨av98x, nv98x, pv98x, rfl⟩ := (r98x.can smA3.1 (by omega)).sliced
    obtain ⟨av98y, nv98y, pv98y, rfl⟩ := (r98y.can smA3.2 (by omega)).sliced
    clear h1_ h2_
    replace hB := hB.trans (hb.mono hB.size)
    replace hk4 := hk4.keep hb
    replace hk5 := hk5.keep hb
    replace kn := kn.keep hb
    replace kpx := kpx.keep hb
    replace kpy := kpy.keep hb
    replace hk8 := hk8.keep hb
    replace kqx := kqx.keep hb
    replace kqy := kqy.keep hb
    replace hk9 := hk9.keep hb
    replace hk10 := hk10.keep hb
    replace hk12 := hk12.keep hb
    replace r92x := r92x.below hb
    replace r92y := r92y.below hb
    clear hb h_
    go_wp2_with (refine wpList_store_agg rfl 29 _ _ rfl g10 29 [(.slice av44x nv44x pv44x), (.slice av44y nv44y pv44y), (.bool false)] [(.slice av98x nv98x pv98x), (.slice av98y nv98y pv98y), (.bool false)] rfl rfl hk10 size_pt (by intro v_ hv_; simp only [List.mem_cons, List.not_mem_nil, or_false] at hv_; rcases hv_ with rfl | rfl | rfl <;> first | rfl | exact (r98x.can smA3.1 (by omega)).one_cell | exact (r98y.can smA3.2 (by omega)).one_cell) rfl ?_)
    intro w28 hn hg
    replace hB := hB.grown hg hB.size (by intro k_ hk_; cases hk_; exact HG10.out)
    replace hk4 := hk4.grown hg (fun e_ => NE4_10.out (Option.some.inj e_))
    replace hk5 := hk5.grown hg (fun e_ => NE5_10.out (Option.some.inj e_))
    replace kn := kn.grown hg (fun e_ => nb_kn_10.out (Option.some.inj e_))
    replace kpx := kpx.grown hg (fun e_ => nb_kpx_10.out (Option.some.inj e_))
    replace kpy := kpy.grown hg (fun e_ => nb_kpy_10.out (Option.some.inj e_))
    replace hk8 := hk8.grown hg (fun e_ => NE8_10.out (Option.some.inj e_))
    replace kqx := kqx.grown hg (fun e_ => nb_kqx_10.out (Option.some.inj e_))
    replace kqy := kqy.grown hg (fun e_ => nb_kqy_10.out (Option.some.inj e_))
    replace hk9 := hk9.grown hg (fun e_ => NE9_10.out (Option.some.inj e_))
    replace hk10 := hn
    replace hk12 := hk12.grown hg (fun e_ => NE10_12.out (Option.some.inj e_).symm)
    replace r92x := r92x.off off_r92x_10 hg
    replace r92y := r92y.off off_r92y_10 hg
    replace r98x := r98x.off off_r98x_10 hg
    replace r98y := r98y.off off_r98y_10 hg
    clear hn hg
    have hcc_ : (A3.1 != A3.1) = false := by simp
    have hcd_ : (A3.1 == A3.1) = true := by simp
    have h_ := one_c ⟨_, _, rfl, (r98x.can smA3.1 (by omega)), (r98y.can smA3.2 (by omega))⟩ ⟨_, _, rfl, (r92x.can smA3.1 (by omega)), (r92y.can smA3.2 (by omega))⟩
    rw [show decide (A3.2.1 = A3.2.1 ∧ A3.2.2 = A3.2.2) = true from decide_eq_true ⟨rfl, rfl⟩] at h_
    have q0_ := hk10.cell 0 rfl
    have q1_ := hk10.cell 1 rfl
    have q2_ := hk10.cell 2 rfl
    have q3_ := hk12.cell 0 rfl
    have q4_ := hk12.cell 1 rfl
    have q5_ := hk12.cell 2 rfl
    go_wp2_with fail
    refine (h_).mono ?_; rintro e_ w29 ⟨rfl, hb⟩
    clear q0_ q1_ q2_ q3_ q4_ q5_
    replace hB := hB.trans (hb.mono hB.size)
    replace hk4 := hk4.keep hb
    replace hk5 := hk5.keep hb
    replace kn := kn.keep hb
    replace kpx := kpx.keep hb
    replace kpy := kpy.keep hb
    replace hk8 := hk8.keep hb
    replace kqx := kqx.keep hb
    replace kqy := kqy.keep hb
    replace hk9 := hk9.keep hb
    replace hk10 := hk10.keep hb
    replace hk12 := hk12.keep hb
    replace r92x := r92x.below hb
    replace r92y := r92y.below hb
    replace r98x := r98x.below hb
    replace r98y := r98y.below hb
    clear hb h_
    clear hcc_ hcd_
    clear r92x
    clear r92y
    clear r98x
    clear r98y
    by_cases hy0 : 0 < mqy
    · skip
      have hd0 : decide ((0 : Int) < (mqy : Int)) = true := decide_eq_true (by omega)
      have hy1 : (0 : Int) < (mqy : Int) := by omega
      have b0 := kqy.cell 0 (by rw [List.length_append, ← HMqy.out]; omega)
      have bf := kqy.free 0
      obtain ⟨x1, hx0⟩ : ∃ x, x = nth (qy ++ mw4) 0 := ⟨_, rfl⟩
      rw [← hx0] at b0
      have xry1 := xor_u32_rng x1 1
      obtain ⟨y1, hy0_⟩ : ∃ y, y = bits .xor .u32 x1 1 := ⟨_, rfl⟩
      rw [← hy0_] at xry1
      have eqs := hy0_.symm
      have ks_ := kqy.set 0 y1
      rw [List.set_append_left _ _ (by rw [← HMqy.out]; assumption)] at ks_
      clear hx0 hy0_
      obtain ⟨Y2, hY2⟩ : ∃ y, y = val (qy.set 0 y1) := ⟨_, rfl⟩
      have nqy2 := fun W (h : Blk W gqy .u32 36 (qy.set 0 y1 ++ mw4)) => nu_qy2 gqy y1 W xry1 h
      rw [← hY2] at nqy2
      clear hY2 hy0
      have q0_ := hk9.cell 1 rfl
      go_wp2_with fail
      go_region
      clear q0_ b0 bf eqs
      replace hB := hB.setCell (p := ⟨gqy, 0, none⟩) HB_kqy.out (.int .u32 y1)
      replace hk4 := hk4.other (Ne.symm nb_kqy_4.out) 0 (.int .u32 y1)
      replace hk5 := hk5.other (Ne.symm nb_kqy_5.out) 0 (.int .u32 y1)
      replace kn := kn.other nbb_kn_kqy.out 0 (.int .u32 y1)
      replace kpx := kpx.other nbb_kpx_kqy.out 0 (.int .u32 y1)
      replace kpy := kpy.other nbb_kpy_kqy.out 0 (.int .u32 y1)
      replace hk8 := hk8.other (Ne.symm nb_kqy_8.out) 0 (.int .u32 y1)
      replace kqx := kqx.other nbb_kqx_kqy.out 0 (.int .u32 y1)
      replace hk9 := hk9.other (Ne.symm nb_kqy_9.out) 0 (.int .u32 y1)
      replace hk10 := hk10.other (Ne.symm nb_kqy_10.out) 0 (.int .u32 y1)
      replace hk12 := hk12.other (Ne.symm nb_kqy_12.out) 0 (.int .u32 y1)
      replace kqy := ks_
      clear ks_
      have hb := below_drewN (Below.refl (World.heap (World.setCell w29 ⟨gqy, 0, none⟩ (.int .u32 y1))).size (World.setCell w29 ⟨gqy, 0, none⟩ (.int .u32 y1))) 1
      obtain ⟨w30, hw_⟩ : ∃ x, x = World.drew (World.setCell w29 ⟨gqy, 0, none⟩ (.int .u32 y1)) := ⟨_, rfl⟩
      rw [show World.drewN (World.setCell w29 ⟨gqy, 0, none⟩ (.int .u32 y1)) 1 = w30 from hw_.symm] at hb
      rw [← hw_]
      clear hw_
      replace hB := hB.trans (hb.mono hB.size)
      replace hk4 := hk4.keep hb
      replace hk5 := hk5.keep hb
      replace kn := kn.keep hb
      replace kpx := kpx.keep hb
      replace kpy := kpy.keep hb
      replace hk8 := hk8.keep hb
      replace kqx := kqx.keep hb
      replace kqy := kqy.keep hb
      replace hk9 := hk9.keep hb
      replace hk10 := hk10.keep hb
      replace hk12 := hk12.keep hb
      clear hb
      obtain ⟨A4, hA4_⟩ : ∃ r, r = addA X Y ip X' Y2 iq := ⟨_, rfl⟩
      have smA4 : Small A4 := by rw [hA4_]; exact addA_small ..
      have HA4 := Lib.hid hA4_.symm
      clear hA4_
      have h_ := radd_any (i := ip) (i' := iq) (nP.below hB) ⟨_, _, rfl, nu_qx gqx _ kqx, nqy2 _ kqy⟩
      rw [HA4.out] at h_
      go_wp2_with (first | refine wpList_load_agg rfl 29 _ rfl g4 rfl _ [(.slice apx mpx cpx), (.slice apy mpy cpy), (.bool ip)] _ hk4 Tryd.underlying29 rfl size_pt ?_ | refine wpList_load_agg rfl 29 _ rfl g9 rfl _ [(.slice (some ⟨gqx, 0, none⟩) mqx (mqx + 4)), (.slice (some ⟨gqy, 0, none⟩) mqy (mqy + 4)), (.bool iq)] _ hk9 Tryd.underlying29 rfl size_pt ?_)
      refine (h_).mono ?_; rintro e_ w31 ⟨v125, rfl, hn, hb⟩
      obtain ⟨v125x, v125y, rfl, h1_, h2_⟩ := hn
      have off_r125x_4 := NatRes.off_new h1_ hk4.lt
      have off_r125x_5 := NatRes.off_new h1_ hk5.lt
      have off_r125x_8 := NatRes.off_new h1_ hk8.lt
      have off_r125x_9 := NatRes.off_new h1_ hk9.lt
      have off_r125x_10 := NatRes.off_new h1_ hk10.lt
      have off_r125x_12 := NatRes.off_new h1_ hk12.lt
      have off_r125y_4 := NatRes.off_new h2_ hk4.lt
      have off_r125y_5 := NatRes.off_new h2_ hk5.lt
      have off_r125y_8 := NatRes.off_new h2_ hk8.lt
      have off_r125y_9 := NatRes.off_new h2_ hk9.lt
      have off_r125y_10 := NatRes.off_new h2_ hk10.lt
      have off_r125y_12 := NatRes.off_new h2_ hk12.lt
      have r125x := h1_.mono (Nat.zero_le _)
      have r125y := h2_.mono (Nat.zero_le _)
      obtain ⟨av125x, nv125x, pv125x, rfl⟩ := (r125x.can smA4.1 (by omega)).sliced
      obtain ⟨av125y, nv125y, pv125y, rfl⟩ := (r125y.can smA4.2 (by omega)).sliced
      clear h1_ h2_
      replace hB := hB.trans (hb.mono hB.size)
      replace hk4 := hk4.keep hb
      replace hk5 := hk5.keep hb
      replace kn := kn.keep hb
      replace kpx := kpx.keep hb
      replace kpy := kpy.keep hb
      replace hk8 := hk8.keep hb
      replace kqx := kqx.keep hb
      replace kqy := kqy.keep hb
      replace hk9 := hk9.keep hb
      replace hk10 := hk10.keep hb
      replace hk12 := hk12.keep hb
      clear hb h_
      go_wp2_with (refine wpList_store_agg rfl 29 _ _ rfl g12 29 [(.slice av92x nv92x pv92x), (.slice av92y nv92y pv92y), (.bool false)] [(.slice av125x nv125x pv125x), (.slice av125y nv125y pv125y), (.bool false)] rfl rfl hk12 size_pt (by intro v_ hv_; simp only [List.mem_cons, List.not_mem_nil, or_false] at hv_; rcases hv_ with rfl | rfl | rfl <;> first | rfl | exact (r125x.can smA4.1 (by omega)).one_cell | exact (r125y.can smA4.2 (by omega)).one_cell) rfl ?_)
      intro w32 hn hg
      replace hB := hB.grown hg hB.size (by intro k_ hk_; cases hk_; exact HG12.out)
      replace hk4 := hk4.grown hg (fun e_ => NE4_12.out (Option.some.inj e_))
      replace hk5 := hk5.grown hg (fun e_ => NE5_12.out (Option.some.inj e_))
      replace kn := kn.grown hg (fun e_ => nb_kn_12.out (Option.some.inj e_))
      replace kpx := kpx.grown hg (fun e_ => nb_kpx_12.out (Option.some.inj e_))
      replace kpy := kpy.grown hg (fun e_ => nb_kpy_12.out (Option.some.inj e_))
      replace hk8 := hk8.grown hg (fun e_ => NE8_12.out (Option.some.inj e_))
      replace kqx := kqx.grown hg (fun e_ => nb_kqx_12.out (Option.some.inj e_))
      replace kqy := kqy.grown hg (fun e_ => nb_kqy_12.out (Option.some.inj e_))
      replace hk9 := hk9.grown hg (fun e_ => NE9_12.out (Option.some.inj e_))
      replace hk10 := hk10.grown hg (fun e_ => NE10_12.out (Option.some.inj e_))
      replace hk12 := hn
      replace r125x := r125x.off off_r125x_12 hg
      replace r125y := r125y.off off_r125y_12 hg
      clear hn hg
      have h_ := add_any (i := ip) (i' := iq) ⟨_, _, rfl, nu_px gpx _ kpx, nu_py gpy _ kpy⟩ ⟨_, _, rfl, nu_qx gqx _ kqx, nqy2 _ kqy⟩ (tP.below hB) (tD.below hB)
      rw [HA4.out] at h_
      go_wp2_with (first | refine wpList_load_agg rfl 29 _ rfl g8 rfl _ [(.slice (some ⟨gpx, 0, none⟩) mpx (mpx + 4)), (.slice (some ⟨gpy, 0, none⟩) mpy (mpy + 4)), (.bool ip)] _ hk8 Tryd.underlying29 rfl size_pt ?_ | refine wpList_load_agg rfl 29 _ rfl g9 rfl _ [(.slice (some ⟨gqx, 0, none⟩) mqx (mqx + 4)), (.slice (some ⟨gqy, 0, none⟩) mqy (mqy + 4)), (.bool iq)] _ hk9 Tryd.underlying29 rfl size_pt ?_)
      refine (h_).mono ?_; rintro e_ w33 ⟨v131, rfl, hn, hb⟩
      obtain ⟨v131x, v131y, rfl, h1_, h2_⟩ := hn
      have off_r131x_4 := NatRes.off_new h1_ hk4.lt
      have off_r131x_5 := NatRes.off_new h1_ hk5.lt
      have off_r131x_8 := NatRes.off_new h1_ hk8.lt
      have off_r131x_9 := NatRes.off_new h1_ hk9.lt
      have off_r131x_10 := NatRes.off_new h1_ hk10.lt
      have off_r131x_12 := NatRes.off_new h1_ hk12.lt
      have off_r131y_4 := NatRes.off_new h2_ hk4.lt
      have off_r131y_5 := NatRes.off_new h2_ hk5.lt
      have off_r131y_8 := NatRes.off_new h2_ hk8.lt
      have off_r131y_9 := NatRes.off_new h2_ hk9.lt
      have off_r131y_10 := NatRes.off_new h2_ hk10.lt
      have off_r131y_12 := NatRes.off_new h2_ hk12.lt
      have r131x := h1_.mono (Nat.zero_le _)
      have r131y := h2_.mono (Nat.zero_le _)
      obtain ⟨av131x, nv131x, pv131x, rfl⟩ := (r131x.can smA4.1 (by omega)).sliced
      obtain ⟨av131y, nv131y, pv131y, rfl⟩ := (r131y.can smA4.2 (by omega)).sliced
      clear h1_ h2_
      replace hB := hB.trans (hb.mono hB.size)
      replace hk4 := hk4.keep hb
      replace hk5 := hk5.keep hb
      replace kn := kn.keep hb
      replace kpx := kpx.keep hb
      replace kpy := kpy.keep hb
      replace hk8 := hk8.keep hb
      replace kqx := kqx.keep hb
      replace kqy := kqy.keep hb
      replace hk9 := hk9.keep hb
      replace hk10 := hk10.keep hb
      replace hk12 := hk12.keep hb
      replace r125x := r125x.below hb
      replace r125y := r125y.below hb
      clear hb h_
      go_wp2_with (refine wpList_store_agg rfl 29 _ _ rfl g10 29 [(.slice av98x nv98x pv98x), (.slice av98y nv98y pv98y), (.bool false)] [(.slice av131x nv131x pv131x), (.slice av131y nv131y pv131y), (.bool false)] rfl rfl hk10 size_pt (by intro v_ hv_; simp only [List.mem_cons, List.not_mem_nil, or_false] at hv_; rcases hv_ with rfl | rfl | rfl <;> first | rfl | exact (r131x.can smA4.1 (by omega)).one_cell | exact (r131y.can smA4.2 (by omega)).one_cell) rfl ?_)
      intro w34 hn hg
      replace hB := hB.grown hg hB.size (by intro k_ hk_; cases hk_; exact HG10.out)
      replace hk4 := hk4.grown hg (fun e_ => NE4_10.out (Option.some.inj e_))
      replace hk5 := hk5.grown hg (fun e_ => NE5_10.out (Option.some.inj e_))
      replace kn := kn.grown hg (fun e_ => nb_kn_10.out (Option.some.inj e_))
      replace kpx := kpx.grown hg (fun e_ => nb_kpx_10.out (Option.some.inj e_))
      replace kpy := kpy.grown hg (fun e_ => nb_kpy_10.out (Option.some.inj e_))
      replace hk8 := hk8.grown hg (fun e_ => NE8_10.out (Option.some.inj e_))
      replace kqx := kqx.grown hg (fun e_ => nb_kqx_10.out (Option.some.inj e_))
      replace kqy := kqy.grown hg (fun e_ => nb_kqy_10.out (Option.some.inj e_))
      replace hk9 := hk9.grown hg (fun e_ => NE9_10.out (Option.some.inj e_))
      replace hk10 := hn
      replace hk12 := hk12.grown hg (fun e_ => NE10_12.out (Option.some.inj e_).symm)
      replace r125x := r125x.off off_r125x_10 hg
      replace r125y := r125y.off off_r125y_10 hg
      replace r131x := r131x.off off_r131x_10 hg
      replace r131y := r131y.off off_r131y_10 hg
      clear hn hg
      have hcc_ : (A4.1 != A4.1) = false := by simp
      have hcd_ : (A4.1 == A4.1) = true := by simp
      have h_ := one_c ⟨_, _, rfl, (r131x.can smA4.1 (by omega)), (r131y.can smA4.2 (by omega))⟩ ⟨_, _, rfl, (r125x.can smA4.1 (by omega)), (r125y.can smA4.2 (by omega))⟩
      rw [show decide (A4.2.1 = A4.2.1 ∧ A4.2.2 = A4.2.2) = true from decide_eq_true ⟨rfl, rfl⟩] at h_
      have q0_ := hk10.cell 0 rfl
      have q1_ := hk10.cell 1 rfl
      have q2_ := hk10.cell 2 rfl
      have q3_ := hk12.cell 0 rfl
      have q4_ := hk12.cell 1 rfl
      have q5_ := hk12.cell 2 rfl
      go_wp2_with fail
      refine (h_).mono ?_; rintro e_ w35 ⟨rfl, hb⟩
      clear q0_ q1_ q2_ q3_ q4_ q5_
      replace hB := hB.trans (hb.mono hB.size)
      replace hk4 := hk4.keep hb
      replace hk5 := hk5.keep hb
      replace kn := kn.keep hb
      replace kpx := kpx.keep hb
      replace kpy := kpy.keep hb
      replace hk8 := hk8.keep hb
      replace kqx := kqx.keep hb
      replace kqy := kqy.keep hb
      replace hk9 := hk9.keep hb
      replace hk10 := hk10.keep hb
      replace hk12 := hk12.keep hb
      replace r125x := r125x.below hb
      replace r125y := r125y.below hb
      replace r131x := r131x.below hb
      replace r131y := r131y.below hb
      clear hb h_
      clear hcc_ hcd_
      go_wp2_with fail
      go_ret
      exact ⟨by first | done | rfl | simp, hB⟩
    · skip
      have hd0 : decide ((0 : Int) < (mqy : Int)) = false := decide_eq_false (by omega)
      have hy1 : ¬ (0 : Int) < (mqy : Int) := by omega
      have q0_ := hk9.cell 1 rfl
      obtain ⟨A4, hA4_⟩ : ∃ r, r = addA X Y ip X' Y' iq := ⟨_, rfl⟩
      have smA4 : Small A4 := by rw [hA4_]; exact addA_small ..
      have HA4 := Lib.hid hA4_.symm
      clear hA4_
      have h_ := radd_any (i := ip) (i' := iq) (nP.below hB) ⟨_, _, rfl, nu_qx gqx _ kqx, nu_qy gqy _ kqy⟩
      rw [HA4.out] at h_
      go_wp2_with (first | refine wpList_load_agg rfl 29 _ rfl g4 rfl _ [(.slice apx mpx cpx), (.slice apy mpy cpy), (.bool ip)] _ hk4 Tryd.underlying29 rfl size_pt ?_ | refine wpList_load_agg rfl 29 _ rfl g9 rfl _ [(.slice (some ⟨gqx, 0, none⟩) mqx (mqx + 4)), (.slice (some ⟨gqy, 0, none⟩) mqy (mqy + 4)), (.bool iq)] _ hk9 Tryd.underlying29 rfl size_pt ?_)
      refine (h_).mono ?_; rintro e_ w30 ⟨v125, rfl, hn, hb⟩
      obtain ⟨v125x, v125y, rfl, h1_, h2_⟩ := hn
      have off_r125x_4 := NatRes.off_new h1_ hk4.lt
      have off_r125x_5 := NatRes.off_new h1_ hk5.lt
      have off_r125x_8 := NatRes.off_new h1_ hk8.lt
      have off_r125x_9 := NatRes.off_new h1_ hk9.lt
      have off_r125x_10 := NatRes.off_new h1_ hk10.lt
      have off_r125x_12 := NatRes.off_new h1_ hk12.lt
      have off_r125y_4 := NatRes.off_new h2_ hk4.lt
      have off_r125y_5 := NatRes.off_new h2_ hk5.lt
      have off_r125y_8 := NatRes.off_new h2_ hk8.lt
      have off_r125y_9 := NatRes.off_new h2_ hk9.lt
      have off_r125y_10 := NatRes.off_new h2_ hk10.lt
      have off_r125y_12 := NatRes.off_new h2_ hk12.lt
      have r125x := h1_.mono (Nat.zero_le _)
      have r125y := h2_.mono (Nat.zero_le _)
      obtain ⟨av125x, nv125x, pv125x, rfl⟩ := (r125x.can smA4.1 (by omega)).sliced
      obtain ⟨av125y, nv125y, pv125y, rfl⟩ := (r125y.can smA4.2 (by omega)).sliced
      clear h1_ h2_
      replace hB := hB.trans (hb.mono hB.size)
      replace hk4 := hk4.keep hb
      replace hk5 := hk5.keep hb
      replace kn := kn.keep hb
      replace kpx := kpx.keep hb
      replace kpy := kpy.keep hb
      replace hk8 := hk8.keep hb
      replace kqx := kqx.keep hb
      replace kqy := kqy.keep hb
      replace hk9 := hk9.keep hb
      replace hk10 := hk10.keep hb
      replace hk12 := hk12.keep hb
      clear hb h_
      go_wp2_with (refine wpList_store_agg rfl 29 _ _ rfl g12 29 [(.slice av92x nv92x pv92x), (.slice av92y nv92y pv92y), (.bool false)] [(.slice av125x nv125x pv125x), (.slice av125y nv125y pv125y), (.bool false)] rfl rfl hk12 size_pt (by intro v_ hv_; simp only [List.mem_cons, List.not_mem_nil, or_false] at hv_; rcases hv_ with rfl | rfl | rfl <;> first | rfl | exact (r125x.can smA4.1 (by omega)).one_cell | exact (r125y.can smA4.2 (by omega)).one_cell) rfl ?_)
      intro w31 hn hg
      replace hB := hB.grown hg hB.size (by intro k_ hk_; cases hk_; exact HG12.out)
      replace hk4 := hk4.grown hg (fun e_ => NE4_12.out (Option.some.inj e_))
      replace hk5 := hk5.grown hg (fun e_ => NE5_12.out (Option.some.inj e_))
      replace kn := kn.grown hg (fun e_ => nb_kn_12.out (Option.some.inj e_))
      replace kpx := kpx.grown hg (fun e_ => nb_kpx_12.out (Option.some.inj e_))
      replace kpy := kpy.grown hg (fun e_ => nb_kpy_12.out (Option.some.inj e_))
      replace hk8 := hk8.grown hg (fun e_ => NE8_12.out (Option.some.inj e_))
      replace kqx := kqx.grown hg (fun e_ => nb_kqx_12.out (Option.some.inj e_))
      replace kqy := kqy.grown hg (fun e_ => nb_kqy_12.out (Option.some.inj e_))
      replace hk9 := hk9.grown hg (fun e_ => NE9_12.out (Option.some.inj e_))
      replace hk10 := hk10.grown hg (fun e_ => NE10_12.out (Option.some.inj e_))
      replace hk12 := hn
      replace r125x := r125x.off off_r125x_12 hg
      replace r125y := r125y.off off_r125y_12 hg
      clear hn hg
      have h_ := add_any (i := ip) (i' := iq) ⟨_, _, rfl, nu_px gpx _ kpx, nu_py gpy _ kpy⟩ ⟨_, _, rfl, nu_qx gqx _ kqx, nu_qy gqy _ kqy⟩ (tP.below hB) (tD.below hB)
      rw [HA4.out] at h_
      go_wp2_with (first | refine wpList_load_agg rfl 29 _ rfl g8 rfl _ [(.slice (some ⟨gpx, 0, none⟩) mpx (mpx + 4)), (.slice (some ⟨gpy, 0, none⟩) mpy (mpy + 4)), (.bool ip)] _ hk8 Tryd.underlying29 rfl size_pt ?_ | refine wpList_load_agg rfl 29 _ rfl g9 rfl _ [(.slice (some ⟨gqx, 0, none⟩) mqx (mqx + 4)), (.slice (some ⟨gqy, 0, none⟩) mqy (mqy + 4)), (.bool iq)] _ hk9 Tryd.underlying29 rfl size_pt ?_)
      refine (h_).mono ?_; rintro e_ w32 ⟨v131, rfl, hn, hb⟩
      obtain ⟨v131x, v131y, rfl, h1_, h2_⟩ := hn
      have off_r131x_4 := NatRes.off_new h1_ hk4.lt
      have off_r131x_5 := NatRes.off_new h1_ hk5.lt
      have off_r131x_8 := NatRes.off_new h1_ hk8.lt
      have off_r131x_9 := NatRes.off_new h1_ hk9.lt
      have off_r131x_10 := NatRes.off_new h1_ hk10.lt
      have off_r131x_12 := NatRes.off_new h1_ hk12.lt
      have off_r131y_4 := NatRes.off_new h2_ hk4.lt
      have off_r131y_5 := NatRes.off_new h2_ hk5.lt
      have off_r131y_8 := NatRes.off_new h2_ hk8.lt
      have off_r131y_9 := NatRes.off_new h2_ hk9.lt
      have off_r131y_10 := NatRes.off_new h2_ hk10.lt
      have off_r131y_12 := NatRes.off_new h2_ hk12.lt
      have r131x := h1_.mono (Nat.zero_le _)
      have r131y := h2_.mono (Nat.zero_le _)
      obtain ⟨av131x, nv131x, pv131x, rfl⟩ := (r131x.can smA4.1 (by omega)).sliced
      obtain ⟨av131y, nv131y, pv131y, rfl⟩ := (r131y.can smA4.2 (by omega)).sliced
      clear h1_ h2_
      replace hB := hB.trans (hb.mono hB.size)
      replace hk4 := hk4.keep hb
      replace hk5 := hk5.keep hb
      replace kn := kn.keep hb
      replace kpx := kpx.keep hb
      replace kpy := kpy.keep hb
      replace hk8 := hk8.keep hb
      replace kqx := kqx.keep hb
      replace kqy := kqy.keep hb
      replace hk9 := hk9.keep hb
      replace hk10 := hk10.keep hb
      replace hk12 := hk12.keep hb
      replace r125x := r125x.below hb
      replace r125y := r125y.below hb
      clear hb h_
      go_wp2_with (refine wpList_store_agg rfl 29 _ _ rfl g10 29 [(.slice av98x nv98x pv98x), (.slice av98y nv98y pv98y), (.bool false)] [(.slice av131x nv131x pv131x), (.slice av131y nv131y pv131y), (.bool false)] rfl rfl hk10 size_pt (by intro v_ hv_; simp only [List.mem_cons, List.not_mem_nil, or_false] at hv_; rcases hv_ with rfl | rfl | rfl <;> first | rfl | exact (r131x.can smA4.1 (by omega)).one_cell | exact (r131y.can smA4.2 (by omega)).one_cell) rfl ?_)
      intro w33 hn hg
      replace hB := hB.grown hg hB.size (by intro k_ hk_; cases hk_; exact HG10.out)
      replace hk4 := hk4.grown hg (fun e_ => NE4_10.out (Option.some.inj e_))
      replace hk5 := hk5.grown hg (fun e_ => NE5_10.out (Option.some.inj e_))
      replace kn := kn.grown hg (fun e_ => nb_kn_10.out (Option.some.inj e_))
      replace kpx := kpx.grown hg (fun e_ => nb_kpx_10.out (Option.some.inj e_))
      replace kpy := kpy.grown hg (fun e_ => nb_kpy_10.out (Option.some.inj e_))
      replace hk8 := hk8.grown hg (fun e_ => NE8_10.out (Option.some.inj e_))
      replace kqx := kqx.grown hg (fun e_ => nb_kqx_10.out (Option.some.inj e_))
      replace kqy := kqy.grown hg (fun e_ => nb_kqy_10.out (Option.some.inj e_))
      replace hk9 := hk9.grown hg (fun e_ => NE9_10.out (Option.some.inj e_))
      replace hk10 := hn
      replace hk12 := hk12.grown hg (fun e_ => NE10_12.out (Option.some.inj e_).symm)
      replace r125x := r125x.off off_r125x_10 hg
      replace r125y := r125y.off off_r125y_10 hg
      replace r131x := r131x.off off_r131x_10 hg
      replace r131y := r131y.off off_r131y_10 hg
      clear hn hg
      have hcc_ : (A4.1 != A4.1) = false := by simp
      have hcd_ : (A4.1 == A4.1) = true := by simp
      have h_ := one_c ⟨_, _, rfl, (r131x.can smA4.1 (by omega)), (r131y.can smA4.2 (by omega))⟩ ⟨_, _, rfl, (r125x.can smA4.1 (by omega)), (r125y.can smA4.2 (by omega))⟩
      rw [show decide (A4.2.1 = A4.2.1 ∧ A4.2.2 = A4.2.2) = true from decide_eq_true ⟨rfl, rfl⟩] at h_
      have q0_ := hk10.cell 0 rfl
      have q1_ := hk10.cell 1 rfl
      have q2_ := hk10.cell 2 rfl
      have q3_ := hk12.cell 0 rfl
      have q4_ := hk12.cell 1 rfl
      have q5_ := hk12.cell 2 rfl
      go_wp2_with fail
      refine (h_).mono ?_; rintro e_ w34 ⟨rfl, hb⟩
      clear q0_ q1_ q2_ q3_ q4_ q5_
      replace hB := hB.trans (hb.mono hB.size)
      replace hk4 := hk4.keep hb
      replace hk5 := hk5.keep hb
      replace kn := kn.keep hb
      replace kpx := kpx.keep hb
      replace kpy := kpy.keep hb
      replace hk8 := hk8.keep hb
      replace kqx := kqx.keep hb
      replace kqy := kqy.keep hb
      replace hk9 := hk9.keep hb
      replace hk10 := hk10.keep hb
      replace hk12 := hk12.keep hb
      replace r125x := r125x.below hb
      replace r125y := r125y.below hb
      replace r131x := r131x.below hb
      replace r131y := r131y.below hb
      clear hb h_
      clear hcc_ hcd_
      go_wp2_with fail
      go_ret
      exact ⟨by first | done | rfl | simp, hB⟩
end Go.Proofs.YtlolkighnnedfaaDoor
