import Derived.Test.YtlolkighnnedfaaDoorZ35
import Derived.Deep.DeepCutAuto
import Derived.Deep.CutBlock
/- signetlaw13.EdSpares by its contract. (Printed by gen_edspares.py.) -/
set_option linter.unusedVariables false
set_option linter.unusedSimpArgs false
namespace Go.Proofs.YtlolkighnnedfaaDoor
open Go.RowKit Go.Sg
def CellAt (w : World) (g j : Nat) (v : Value) : Prop := w.cell? ⟨g, j, none⟩ = some v
theorem CellAt.below {w w' : World} {g j : Nat} {v : Value} (h : CellAt w g j v) (hb : Below w.heap.size w w') : CellAt w' g j v := (World.cell?_of_block (a := ⟨g, j, none⟩) (hb.block g (World.block_lt_of_cell? w _ h))).trans h
theorem was_at {B n i X g c : Nat} {w : World} {V : Nat → Value} {A : Nat → List Int} (h : Lists B .u32 36 95 27 w (.slice (some ⟨g, 0, none⟩) n c) n V A) (hi : i < n) (m : NumL (A i) X) : ∃ a z d, CellAt w g i (.slice a z d) ∧ CanAt w (.slice a z d) X := by
 obtain ⟨g', e, hc⟩ := h.row.place hi
 cases e
 obtain ⟨a, d, hv, -, -⟩ := h.fam.own hi
 have hn := h.fam.new i hi
 rw [hv] at hc hn
 exact ⟨a, _, d, hc, Go.Proofs.YtlolkighnnedfaaDoor.NewA.can hn m⟩
theorem PtRes.pts {B : Nat} {w : World} {v : Value} {P : Pt} (h : PtRes B w v P) : ∃ ax nx px ay ny py, v = .agg #[.slice ax nx px, .slice ay ny py, .bool false] ∧ CanAt w (.slice ax nx px) P.1.val ∧ CanAt w (.slice ay ny py) P.2.val := by
 obtain ⟨vx, vy, zx, zy, rfl, n1, n2, m1, m2, -⟩ := ptres_two (F := 95) h
 have c1 := Go.Proofs.YtlolkighnnedfaaDoor.NewA.can n1 m1
 have c2 := Go.Proofs.YtlolkighnnedfaaDoor.NewA.can n2 m2
 obtain ⟨ax, px, rfl, _⟩ := n1.sl
 obtain ⟨ay, py, rfl, _⟩ := n2.sl
 exact ⟨_, _, _, _, _, _, rfl, c1, c2⟩
theorem encB_eB : nth (encB eB) 0 = 88 ∧ nth (encB eB) 1 = 102 ∧ nth (encB eB) 31 = 102 := by decide +kernel

set_option maxHeartbeats 16000000 in
set_option maxRecDepth 20000 in
theorem EdSpares_c {a0 : Option Addr} {c0 : Nat} {x0 : List Int} {w : World} (s0 : Sl .u8 w a0 c0 x0) (u0 : U8 x0) (hz : x0.length ≤ 1048576) (tP : TabAt w 0 limbP) (tD : TabAt w 3 limbD) (tI : TabAt w 4 limbI) (tL : TabAt w 2 limbL) (tB : BaseT w 1) (ht : ShaTabs w) :
  Calls Tryd.prog 3 #[.slice a0 x0.length c0] w (fun e w' => e = .returned (.bool true) ∧ Below w.heap.size w w') := by
 obtain ⟨rd, hrd⟩ : ∃ r, r = decB x0 := ⟨_, rfl⟩
 obtain ⟨C, hC⟩ : ∃ C, C = encB eB := ⟨_, rfl⟩
 have dA := fun W (h : Sl .u8 W a0 c0 x0) t1 t2 t3 => (Decode_c (w := W) h u0 (by omega) t1 t2 t3).mono fun e w' hp => DecPost.any (hp : DecPost (decB x0) W e w')
 rw [← hrd] at dA
 have HC := Lib.hid hC
 obtain ⟨PA, hPA⟩ : ∃ P, P = eAdd eB eB := ⟨_, rfl⟩
 obtain ⟨PB, hPB⟩ : ∃ P, P = eMul 1 eB := ⟨_, rfl⟩
 obtain ⟨PC, hPC⟩ : ∃ P, P = eMul 0 eB := ⟨_, rfl⟩
 have bl1 : bl 1 ≤ 1024 := by decide +kernel
 have bl0 : bl 0 ≤ 1024 := by decide +kernel
 have aA := fun W va vb (h1 : PtIn W va eB.1.val eB.2.val false) (h2 : PtIn W vb eB.1.val eB.2.val false) t1 t2 => (add_ok h1 h2 eB_on eB_on t1 t2).mono fun e w' hp => PtOk.any hp
 have aB := fun W vk va (h1 : NumAt W vk 1) (h2 : PtIn W va eB.1.val eB.2.val false) t1 t2 => (mul_ok h1 h2 eB_on bl1 t1 t2).mono fun e w' hp => PtOk.any hp
 have aC := fun W vk va (h1 : NumAt W vk 0) (h2 : PtIn W va eB.1.val eB.2.val false) t1 t2 => (mul_ok h1 h2 eB_on bl0 t1 t2).mono fun e w' hp => PtOk.any hp
 have blL : bl eL ≤ 1024 := by decide +kernel
 have aL := fun W vk va (h1 : NumAt W vk eL) (h2 : PtIn W va eB.1.val eB.2.val false) t1 t2 => mul_ok h1 h2 eB_on blL t1 t2
 rw [eL_B] at aL
 clear blL
 rw [← hPA] at aA
 rw [← hPB] at aB
 rw [← hPC] at aC
 have HPA := Lib.hid hPA
 clear hPA hPB hPC bl1 bl0
 obtain ⟨n0, hn0⟩ : ∃ n, n = x0.length := ⟨_, rfl⟩
 rw [← hn0] at dA ⊢
 clear hrd hC hn0 hz
 go_enter Tryd.func3, Tryd.ntmps3
 have hB := Below.refl w.heap.size w
 go_wp2_with fail
 refine (awake_c w (tP.below hB) (tD.below hB) (tI.below hB) (tL.below hB) (tB.below hB) (ht.below hB)).mono ?_; rintro e_ w1 ⟨rfl, hb⟩
 replace hB := hB.trans (hb.mono hB.size)
 clear hb
 obtain ⟨wS, hw_⟩ : ∃ x, x = w1 := ⟨_, rfl⟩
 rw [← hw_] at hB ⊢
 clear hw_
 go_wp2_with fail
 go_loopw [3, 4, 5] (fun l told t wr => ∃ (i : Nat) (V : Nat → Value) (A : Nat → List Int) (VT : Nat → Value) (AT : Nat → List Int), i ≤ 2 ∧ t = .int .i64 (i : Int) ∧ Lists w.heap.size .u32 36 95 27 wr l (11 * i) V A ∧ Lists w.heap.size .u8 5 5 22 wr told i VT AT ∧ Hid (∀ j, j < 11 * i → NumL (A j) (qOf rd PA PB PC (j % 11))) ∧ Hid (∀ j, j < i → AT j = C) ∧ Below w.heap.size w wr) (fun _ _ t _ => 2 - (intOf t).toNat)
 case atStart => exact ⟨0, fun _ => undef, fun _ => [], fun _ => undef, fun _ => [], by omega, rfl, ⟨.nil _ _ _, .zero _ _ _ _ _ _ _⟩, ⟨.nil _ _ _, .zero _ _ _ _ _ _ _⟩, Lib.hid (fun j h => by omega), Lib.hid (fun j h => by omega), hB⟩
 case round =>
  clear hB
  obtain ⟨i, V, A, VT, AT, hi, rfl, hL, hT, hN, hE, hB⟩ := hrel
  obtain ⟨q, hq⟩ : ∃ q, q = 11 * i := ⟨_, rfl⟩
  rw [← hq] at hL
  have HQ := Lib.hid hq
  clear hq
  obtain ⟨al_, cl_, rfl⟩ := hL.sl
  obtain ⟨at_, ct_, rfl⟩ := hT.sl
  by_cases hlt : i < 2
  ·
   have hd : decide ((i : Int) < 2) = true := decide_eq_true (by omega)
   have hi2 : (i : Int) < 2 := by omega
   have rl := hL.row
   have fm := hL.fam
   have rt := hT.row
   have ft := hT.fam
   clear hL hT
   go_wp2_with fail
   refine (dA _ (s0.below hB) (tP.below hB) (tD.below hB) (tI.below hB)).mono ?_; rintro e_ w2 ⟨ax43, ay43, px43, py43, zx43, zy43, cc43, rfl, tt, hb⟩
   obtain ⟨V43, A43, fm43, rr_, aa_, mx_, my_⟩ := FamV.two fm hB.size tt hb
   have RR43 := Lib.hid rr_
   have AA43 := Lib.hid aa_
   have MX43 := Lib.hid mx_
   have MY43 := Lib.hid my_
   have c43x := NewA.can tt.1 tt.2.2.1
   have c43y := NewA.can tt.2.1 tt.2.2.2.1
   clear rr_ aa_ mx_ my_
   replace hB := hB.trans (hb.mono hB.size)
   replace rl := rl.keep hb
   replace rt := rt.keep hb
   replace ft := ft.keep hb
   clear hb tt fm
   go_wp2_with (refine wpList_alloc_agg rfl 29 rfl [(.slice none 0 0), (.slice none 0 0), (.bool false)] 3 (by kernel_rfl) ?_)
   intro w3 hk_ hbA_
   obtain ⟨g6, hg_⟩ : ∃ g, g = w2.heap.size := ⟨_, rfl⟩
   rw [← hg_] at hk_ ⊢
   have HGE_ : Hid (w2.heap.size ≤ g6) := Lib.hid (by rw [hg_]; exact Nat.le_refl _)
   clear hg_
   go_wp2_with (refine wpList_store_agg rfl 29 _ _ rfl g6 29 [(.slice none 0 0), (.slice none 0 0), (.bool false)] [(.slice ax43 zx43.length px43), (.slice ay43 zy43.length py43), (.bool false)] rfl rfl hk_ size_pt (by intro v_ hv_; simp only [List.mem_cons, List.not_mem_nil, or_false] at hv_; rcases hv_ with rfl | rfl | rfl <;> first | rfl | exact c43x.one_cell | exact c43y.one_cell) rfl ?_)
   intro w4 hn_ hgr_
   have hk6 := hn_
   have hb := hbA_.grown hgr_ hbA_.size (by intro k_ hk_; cases hk_; exact HGE_.out)
   clear hn_ hgr_ hk_ hbA_ HGE_
   replace hB := hB.trans (hb.mono hB.size)
   replace rl := rl.keep hb
   replace rt := rt.keep hb
   replace ft := ft.keep hb
   replace fm43 := fm43.keep hb
   replace c43x := c43x.below hb
   replace c43y := c43y.below hb
   clear hb
   go_wp2_with fail
   refine (Base_c w4 (tB.below hB)).mono ?_; rintro e_ w5 ⟨v_, rfl, hr_, hb⟩
   obtain ⟨gx46, gy46, rfl, tt⟩ := hr_.two
   obtain ⟨V46, A46, fm46, rr_, aa_, mx_, my_⟩ := FamV.two fm43 hB.size tt hb
   have RR46 := Lib.hid rr_
   have AA46 := Lib.hid aa_
   have MX46 := Lib.hid mx_
   have MY46 := Lib.hid my_
   have c46x := NewA.can tt.1 tt.2.2.1
   have c46y := NewA.can tt.2.1 tt.2.2.2.1
   clear rr_ aa_ mx_ my_
   replace hB := hB.trans (hb.mono hB.size)
   replace rl := rl.keep hb
   replace rt := rt.keep hb
   replace ft := ft.keep hb
   replace c43x := c43x.below hb
   replace c43y := c43y.below hb
   replace hk6 := hk6.keep hb
   clear hb tt fm43
   go_wp2_with (refine wpList_alloc_agg rfl 29 rfl [(.slice none 0 0), (.slice none 0 0), (.bool false)] 3 (by kernel_rfl) ?_)
   intro w6 hk_ hbA_
   obtain ⟨g8, hg_⟩ : ∃ g, g = w5.heap.size := ⟨_, rfl⟩
   rw [← hg_] at hk_ ⊢
   have HGE_ : Hid (w5.heap.size ≤ g8) := Lib.hid (by rw [hg_]; exact Nat.le_refl _)
   clear hg_
   go_wp2_with (refine wpList_store_agg rfl 29 _ _ rfl g8 29 [(.slice none 0 0), (.slice none 0 0), (.bool false)] [(.slice (some ⟨gx46, 0, none⟩) 8 8), (.slice (some ⟨gy46, 0, none⟩) 8 8), (.bool false)] rfl rfl hk_ size_pt (by intro v_ hv_; simp only [List.mem_cons, List.not_mem_nil, or_false] at hv_; rcases hv_ with rfl | rfl | rfl <;> first | rfl | exact c46x.one_cell | exact c46y.one_cell) rfl ?_)
   intro w7 hn_ hgr_
   have hk8 := hn_
   have hb := hbA_.grown hgr_ hbA_.size (by intro k_ hk_; cases hk_; exact HGE_.out)
   clear hn_ hgr_ hk_ hbA_ HGE_
   replace hB := hB.trans (hb.mono hB.size)
   replace rl := rl.keep hb
   replace rt := rt.keep hb
   replace ft := ft.keep hb
   replace c43x := c43x.below hb
   replace c43y := c43y.below hb
   replace hk6 := hk6.keep hb
   replace fm46 := fm46.keep hb
   replace c46x := c46x.below hb
   replace c46y := c46y.below hb
   clear hb
   go_wp2_with (first | refine wpList_load_agg rfl 29 _ rfl g8 rfl _ [(.slice (some ⟨gx46, 0, none⟩) 8 8), (.slice (some ⟨gy46, 0, none⟩) 8 8), (.bool false)] _ hk8 Tryd.underlying29 rfl size_pt ?_ | refine wpList_load_agg rfl 29 _ rfl g8 rfl _ [(.slice (some ⟨gx46, 0, none⟩) 8 8), (.slice (some ⟨gy46, 0, none⟩) 8 8), (.bool false)] _ hk8 Tryd.underlying29 rfl size_pt ?_)
   refine (aA _ _ _ ⟨_, _, rfl, c46x.num, c46y.num⟩ ⟨_, _, rfl, c46x.num, c46y.num⟩ (tP.below hB) (tD.below hB)).mono ?_; rintro e_ w8 ⟨ax50, ay50, px50, py50, zx50, zy50, cc50, rfl, tt, hb⟩
   obtain ⟨V50, A50, fm50, rr_, aa_, mx_, my_⟩ := FamV.two fm46 hB.size tt hb
   have RR50 := Lib.hid rr_
   have AA50 := Lib.hid aa_
   have MX50 := Lib.hid mx_
   have MY50 := Lib.hid my_
   have c50x := NewA.can tt.1 tt.2.2.1
   have c50y := NewA.can tt.2.1 tt.2.2.2.1
   clear rr_ aa_ mx_ my_
   replace hB := hB.trans (hb.mono hB.size)
   replace rl := rl.keep hb
   replace rt := rt.keep hb
   replace ft := ft.keep hb
   replace c43x := c43x.below hb
   replace c43y := c43y.below hb
   replace hk6 := hk6.keep hb
   replace c46x := c46x.below hb
   replace c46y := c46y.below hb
   replace hk8 := hk8.keep hb
   clear hb tt fm46
   go_wp2_with (refine wpList_alloc_agg rfl 29 rfl [(.slice none 0 0), (.slice none 0 0), (.bool false)] 3 (by kernel_rfl) ?_)
   intro w9 hk_ hbA_
   obtain ⟨g9, hg_⟩ : ∃ g, g = w8.heap.size := ⟨_, rfl⟩
   rw [← hg_] at hk_ ⊢
   have HGE_ : Hid (w8.heap.size ≤ g9) := Lib.hid (by rw [hg_]; exact Nat.le_refl _)
   clear hg_
   go_wp2_with (refine wpList_store_agg rfl 29 _ _ rfl g9 29 [(.slice none 0 0), (.slice none 0 0), (.bool false)] [(.slice ax50 zx50.length px50), (.slice ay50 zy50.length py50), (.bool false)] rfl rfl hk_ size_pt (by intro v_ hv_; simp only [List.mem_cons, List.not_mem_nil, or_false] at hv_; rcases hv_ with rfl | rfl | rfl <;> first | rfl | exact c50x.one_cell | exact c50y.one_cell) rfl ?_)
   intro w10 hn_ hgr_
   have hk9 := hn_
   have hb := hbA_.grown hgr_ hbA_.size (by intro k_ hk_; cases hk_; exact HGE_.out)
   clear hn_ hgr_ hk_ hbA_ HGE_
   replace hB := hB.trans (hb.mono hB.size)
   replace rl := rl.keep hb
   replace rt := rt.keep hb
   replace ft := ft.keep hb
   replace c43x := c43x.below hb
   replace c43y := c43y.below hb
   replace hk6 := hk6.keep hb
   replace c46x := c46x.below hb
   replace c46y := c46y.below hb
   replace hk8 := hk8.keep hb
   replace fm50 := fm50.keep hb
   replace c50x := c50x.below hb
   replace c50y := c50y.below hb
   clear hb
   go_wp2_with (refine wpList_lit rfl 27 36 _ rfl Tryd.underlying27 info32e 1 rfl ?_)
   intro w11 hl hb
   have c54 := (NatRes.lit (c := 1) hl (Nat.zero_le _) (by omega) (by omega)).can (k := 1) (by exact ⟨by decide +kernel⟩) (by omega)
   replace c54 : CanAt w11 _ (1 : Fp).val := c54
   obtain ⟨v54, hv54⟩ : ∃ v, v = Value.slice (some ⟨w10.heap.size, 0, none⟩) 1 1 := ⟨_, rfl⟩
   rw [← hv54] at c54 ⊢
   clear hv54 hl
   replace hB := hB.trans (hb.mono hB.size)
   replace rl := rl.keep hb
   replace rt := rt.keep hb
   replace ft := ft.keep hb
   replace c43x := c43x.below hb
   replace c43y := c43y.below hb
   replace hk6 := hk6.keep hb
   replace c46x := c46x.below hb
   replace c46y := c46y.below hb
   replace hk8 := hk8.keep hb
   replace fm50 := fm50.keep hb
   replace c50x := c50x.below hb
   replace c50y := c50y.below hb
   replace hk9 := hk9.keep hb
   clear hb
   rw [one_fp] at c54
   go_wp2_with (refine wpList_load_agg rfl 29 _ rfl g8 rfl _ [(.slice (some ⟨gx46, 0, none⟩) 8 8), (.slice (some ⟨gy46, 0, none⟩) 8 8), (.bool false)] _ hk8 Tryd.underlying29 rfl size_pt ?_)
   refine (aB _ _ _ c54.num ⟨_, _, rfl, c46x.num, c46y.num⟩ (tP.below hB) (tD.below hB)).mono ?_; rintro e_ w12 ⟨ax56, ay56, px56, py56, zx56, zy56, cc56, rfl, tt, hb⟩
   obtain ⟨V56, A56, fm56, rr_, aa_, mx_, my_⟩ := FamV.two fm50 hB.size tt hb
   have RR56 := Lib.hid rr_
   have AA56 := Lib.hid aa_
   have MX56 := Lib.hid mx_
   have MY56 := Lib.hid my_
   have c56x := NewA.can tt.1 tt.2.2.1
   have c56y := NewA.can tt.2.1 tt.2.2.2.1
   clear rr_ aa_ mx_ my_
   replace hB := hB.trans (hb.mono hB.size)
   replace rl := rl.keep hb
   replace rt := rt.keep hb
   replace ft := ft.keep hb
   replace c43x := c43x.below hb
   replace c43y := c43y.below hb
   replace hk6 := hk6.keep hb
   replace c46x := c46x.below hb
   replace c46y := c46y.below hb
   replace hk8 := hk8.keep hb
   replace c50x := c50x.below hb
   replace c50y := c50y.below hb
   replace hk9 := hk9.keep hb
   replace c54 := c54.below hb
   clear hb tt fm50
   go_wp2_with (refine wpList_alloc_agg rfl 29 rfl [(.slice none 0 0), (.slice none 0 0), (.bool false)] 3 (by kernel_rfl) ?_)
   intro w13 hk_ hbA_
   obtain ⟨g11, hg_⟩ : ∃ g, g = w12.heap.size := ⟨_, rfl⟩
   rw [← hg_] at hk_ ⊢
   have HGE_ : Hid (w12.heap.size ≤ g11) := Lib.hid (by rw [hg_]; exact Nat.le_refl _)
   clear hg_
   go_wp2_with (refine wpList_store_agg rfl 29 _ _ rfl g11 29 [(.slice none 0 0), (.slice none 0 0), (.bool false)] [(.slice ax56 zx56.length px56), (.slice ay56 zy56.length py56), (.bool false)] rfl rfl hk_ size_pt (by intro v_ hv_; simp only [List.mem_cons, List.not_mem_nil, or_false] at hv_; rcases hv_ with rfl | rfl | rfl <;> first | rfl | exact c56x.one_cell | exact c56y.one_cell) rfl ?_)
   intro w14 hn_ hgr_
   have hk11 := hn_
   have hb := hbA_.grown hgr_ hbA_.size (by intro k_ hk_; cases hk_; exact HGE_.out)
   clear hn_ hgr_ hk_ hbA_ HGE_
   replace hB := hB.trans (hb.mono hB.size)
   replace rl := rl.keep hb
   replace rt := rt.keep hb
   replace ft := ft.keep hb
   replace c43x := c43x.below hb
   replace c43y := c43y.below hb
   replace hk6 := hk6.keep hb
   replace c46x := c46x.below hb
   replace c46y := c46y.below hb
   replace hk8 := hk8.keep hb
   replace c50x := c50x.below hb
   replace c50y := c50y.below hb
   replace hk9 := hk9.keep hb
   replace c54 := c54.below hb
   replace fm56 := fm56.keep hb
   replace c56x := c56x.below hb
   replace c56y := c56y.below hb
   clear hb
   go_wp2_with (refine wpList_load_agg rfl 29 _ rfl g8 rfl _ [(.slice (some ⟨gx46, 0, none⟩) 8 8), (.slice (some ⟨gy46, 0, none⟩) 8 8), (.bool false)] _ hk8 Tryd.underlying29 rfl size_pt ?_)
   refine (aC _ _ _ (show CanAt _ (.slice none 0 0) 0 from CanAt.nil0 _).num ⟨_, _, rfl, c46x.num, c46y.num⟩ (tP.below hB) (tD.below hB)).mono ?_; rintro e_ w15 ⟨ax61, ay61, px61, py61, zx61, zy61, cc61, rfl, tt, hb⟩
   obtain ⟨V61, A61, fm61, rr_, aa_, mx_, my_⟩ := FamV.two fm56 hB.size tt hb
   have RR61 := Lib.hid rr_
   have AA61 := Lib.hid aa_
   have MX61 := Lib.hid mx_
   have MY61 := Lib.hid my_
   have c61x := NewA.can tt.1 tt.2.2.1
   have c61y := NewA.can tt.2.1 tt.2.2.2.1
   clear rr_ aa_ mx_ my_
   replace hB := hB.trans (hb.mono hB.size)
   replace rl := rl.keep hb
   replace rt := rt.keep hb
   replace ft := ft.keep hb
   replace c43x := c43x.below hb
   replace c43y := c43y.below hb
   replace hk6 := hk6.keep hb
   replace c46x := c46x.below hb
   replace c46y := c46y.below hb
   replace hk8 := hk8.keep hb
   replace c50x := c50x.below hb
   replace c50y := c50y.below hb
   replace hk9 := hk9.keep hb
   replace c54 := c54.below hb
   replace c56x := c56x.below hb
   replace c56y := c56y.below hb
   replace hk11 := hk11.keep hb
   clear hb tt fm56
   go_wp2_with (refine wpList_alloc_agg rfl 29 rfl [(.slice none 0 0), (.slice none 0 0), (.bool false)] 3 (by kernel_rfl) ?_)
   intro w16 hk_ hbA_
   obtain ⟨g13, hg_⟩ : ∃ g, g = w15.heap.size := ⟨_, rfl⟩
   rw [← hg_] at hk_ ⊢
   have HGE_ : Hid (w15.heap.size ≤ g13) := Lib.hid (by rw [hg_]; exact Nat.le_refl _)
   clear hg_
   go_wp2_with (refine wpList_store_agg rfl 29 _ _ rfl g13 29 [(.slice none 0 0), (.slice none 0 0), (.bool false)] [(.slice ax61 zx61.length px61), (.slice ay61 zy61.length py61), (.bool false)] rfl rfl hk_ size_pt (by intro v_ hv_; simp only [List.mem_cons, List.not_mem_nil, or_false] at hv_; rcases hv_ with rfl | rfl | rfl <;> first | rfl | exact c61x.one_cell | exact c61y.one_cell) rfl ?_)
   intro w17 hn_ hgr_
   have hk13 := hn_
   have hb := hbA_.grown hgr_ hbA_.size (by intro k_ hk_; cases hk_; exact HGE_.out)
   clear hn_ hgr_ hk_ hbA_ HGE_
   replace hB := hB.trans (hb.mono hB.size)
   replace rl := rl.keep hb
   replace rt := rt.keep hb
   replace ft := ft.keep hb
   replace c43x := c43x.below hb
   replace c43y := c43y.below hb
   replace hk6 := hk6.keep hb
   replace c46x := c46x.below hb
   replace c46y := c46y.below hb
   replace hk8 := hk8.keep hb
   replace c50x := c50x.below hb
   replace c50y := c50y.below hb
   replace hk9 := hk9.keep hb
   replace c54 := c54.below hb
   replace c56x := c56x.below hb
   replace c56y := c56y.below hb
   replace hk11 := hk11.keep hb
   replace fm61 := fm61.keep hb
   replace c61x := c61x.below hb
   replace c61y := c61y.below hb
   clear hb
   go_wp2_with (refine wpList_load_agg rfl 29 _ rfl g8 rfl _ [(.slice (some ⟨gx46, 0, none⟩) 8 8), (.slice (some ⟨gy46, 0, none⟩) 8 8), (.bool false)] _ hk8 Tryd.underlying29 rfl size_pt ?_)
   refine (enc_any (C := C) HC.out ⟨_, _, rfl, c46x.num, c46y.num⟩ eB_on (tP.below hB) (tD.below hB)).mono ?_; rintro e_ w18 ⟨eE, qE, rfl, hn, hb⟩
   obtain ⟨VT2, AT2, ft2, rt_, at_, et_, -, -⟩ := ft.push' (hn.mix.mono hB.size) hb (fun g hg => (hn.lt g hg).1)
   have RT := Lib.hid rt_
   have AT_ := Lib.hid at_
   have ET := Lib.hid et_
   clear rt_ at_ et_
   replace hB := hB.trans (hb.mono hB.size)
   replace rl := rl.keep hb
   replace rt := rt.keep hb
   replace c43x := c43x.below hb
   replace c43y := c43y.below hb
   replace hk6 := hk6.keep hb
   replace c46x := c46x.below hb
   replace c46y := c46y.below hb
   replace hk8 := hk8.keep hb
   replace c50x := c50x.below hb
   replace c50y := c50y.below hb
   replace hk9 := hk9.keep hb
   replace c54 := c54.below hb
   replace c56x := c56x.below hb
   replace c56y := c56y.below hb
   replace hk11 := hk11.keep hb
   replace fm61 := fm61.keep hb
   replace c61x := c61x.below hb
   replace c61y := c61y.below hb
   replace hk13 := hk13.keep hb
   clear hb hn ft
   clear c43x
   clear c43y
   clear c46x
   clear c46y
   clear c50x
   clear c50y
   clear c54
   clear c56x
   clear c56y
   clear c61x
   clear c61y
   go_wp2_with fail
   refine wp_region_held_drew (S := fun W_ => Rw W_ g6 29 [(.slice ax43 zx43.length px43), (.slice ay43 zy43.length py43), (.bool false)] ∧ Rw W_ g8 29 [(.slice (some ⟨gx46, 0, none⟩) 8 8), (.slice (some ⟨gy46, 0, none⟩) 8 8), (.bool false)] ∧ Rw W_ g9 29 [(.slice ax50 zx50.length px50), (.slice ay50 zy50.length py50), (.bool false)] ∧ Rw W_ g11 29 [(.slice ax56 zx56.length px56), (.slice ay56 zy56.length py56), (.bool false)] ∧ Rw W_ g13 29 [(.slice ax61 zx61.length px61), (.slice ay61 zy61.length py61), (.bool false)]) (by kernel_rfl) (⟨hk6, hk8, hk9, hk11, hk13⟩) (fun hS => ?_)
   have hb := below_drewN (Below.refl w18.heap.size w18) 1
   obtain ⟨w19, hw_⟩ : ∃ x, x = World.drew w18 := ⟨_, rfl⟩
   rw [show World.drewN w18 1 = w19 from hw_.symm] at hb
   rw [← hw_] at hS ⊢
   clear hw_
   replace hB := hB.trans (hb.mono hB.size)
   replace rl := rl.keep hb
   replace rt := rt.keep hb
   replace hk6 := hk6.keep hb
   replace hk8 := hk8.keep hb
   replace hk9 := hk9.keep hb
   replace hk11 := hk11.keep hb
   replace fm61 := fm61.keep hb
   replace hk13 := hk13.keep hb
   replace ft2 := ft2.keep hb
   clear hb
   refine wpAnyH_take (i := 0) (v := ?_) rfl (by kernel_rfl) (by kernel_rfl) (by kernel_rfl) (fun _ _ _ h => h) (Or.inl ⟨by rfl, ?_⟩) hS ?_
   rotate_left
   · intro w _; go_simp; try with_reducible rfl
   simp only [List.getElem_toArray, List.getElem_cons_zero, List.getElem_cons_succ, Act.put, List.setIfInBounds_toArray, List.set_cons_zero, List.set_cons_succ]
   refine wpAnyH_take (i := 1) (v := ?_) rfl (by kernel_rfl) (by kernel_rfl) (by kernel_rfl) (fun _ _ _ h => h) (Or.inl ⟨by rfl, ?_⟩) hS ?_
   rotate_left
   · intro w _; go_simp; try with_reducible rfl
   simp only [List.getElem_toArray, List.getElem_cons_zero, List.getElem_cons_succ, Act.put, List.setIfInBounds_toArray, List.set_cons_zero, List.set_cons_succ]
   refine wpAnyH_take (i := 2) (v := ?_) rfl (by kernel_rfl) (by kernel_rfl) (by kernel_rfl) (fun _ _ _ h => h) (Or.inl ⟨by rfl, ?_⟩) hS ?_
   rotate_left
   · intro W_ hW_; have c_ := Rw.cell (hW_.1) 0 rfl; go_simp; try with_reducible rfl
   simp only [List.getElem_toArray, List.getElem_cons_zero, List.getElem_cons_succ, Act.put, List.setIfInBounds_toArray, List.set_cons_zero, List.set_cons_succ]
   refine wpAnyH_take (i := 3) (v := ?_) rfl (by kernel_rfl) (by kernel_rfl) (by kernel_rfl) (fun _ _ _ h => h) (Or.inl ⟨by rfl, ?_⟩) hS ?_
   rotate_left
   · intro w _; go_simp; try with_reducible rfl
   simp only [List.getElem_toArray, List.getElem_cons_zero, List.getElem_cons_succ, Act.put, List.setIfInBounds_toArray, List.set_cons_zero, List.set_cons_succ]
   refine wpAnyH_take (i := 4) (v := ?_) rfl (by kernel_rfl) (by kernel_rfl) (by kernel_rfl) (fun _ _ _ h => h) (Or.inl ⟨by rfl, ?_⟩) hS ?_
   rotate_left
   · intro W_ hW_; have c_ := Rw.cell (hW_.1) 1 rfl; go_simp; try with_reducible rfl
   simp only [List.getElem_toArray, List.getElem_cons_zero, List.getElem_cons_succ, Act.put, List.setIfInBounds_toArray, List.set_cons_zero, List.set_cons_succ]
   refine wpAnyH_take (i := 5) (v := ?_) rfl (by kernel_rfl) (by kernel_rfl) (by kernel_rfl) (fun _ _ _ h => h) (Or.inl ⟨by rfl, ?_⟩) hS ?_
   rotate_left
   · intro w _; go_simp; try with_reducible rfl
   simp only [List.getElem_toArray, List.getElem_cons_zero, List.getElem_cons_succ, Act.put, List.setIfInBounds_toArray, List.set_cons_zero, List.set_cons_succ]
   refine wpAnyH_take (i := 6) (v := ?_) rfl (by kernel_rfl) (by kernel_rfl) (by kernel_rfl) (fun _ _ _ h => h) (Or.inl ⟨by rfl, ?_⟩) hS ?_
   rotate_left
   · intro W_ hW_; have c_ := Rw.cell (hW_.2.1) 0 rfl; go_simp; try with_reducible rfl
   simp only [List.getElem_toArray, List.getElem_cons_zero, List.getElem_cons_succ, Act.put, List.setIfInBounds_toArray, List.set_cons_zero, List.set_cons_succ]
   refine wpAnyH_take (i := 7) (v := ?_) rfl (by kernel_rfl) (by kernel_rfl) (by kernel_rfl) (fun _ _ _ h => h) (Or.inl ⟨by rfl, ?_⟩) hS ?_
   rotate_left
   · intro w _; go_simp; try with_reducible rfl
   simp only [List.getElem_toArray, List.getElem_cons_zero, List.getElem_cons_succ, Act.put, List.setIfInBounds_toArray, List.set_cons_zero, List.set_cons_succ]
   refine wpAnyH_take (i := 8) (v := ?_) rfl (by kernel_rfl) (by kernel_rfl) (by kernel_rfl) (fun _ _ _ h => h) (Or.inl ⟨by rfl, ?_⟩) hS ?_
   rotate_left
   · intro W_ hW_; have c_ := Rw.cell (hW_.2.1) 1 rfl; go_simp; try with_reducible rfl
   simp only [List.getElem_toArray, List.getElem_cons_zero, List.getElem_cons_succ, Act.put, List.setIfInBounds_toArray, List.set_cons_zero, List.set_cons_succ]
   refine wpAnyH_take (i := 9) (v := ?_) rfl (by kernel_rfl) (by kernel_rfl) (by kernel_rfl) (fun _ _ _ h => h) (Or.inl ⟨by rfl, ?_⟩) hS ?_
   rotate_left
   · intro w _; go_simp; try with_reducible rfl
   simp only [List.getElem_toArray, List.getElem_cons_zero, List.getElem_cons_succ, Act.put, List.setIfInBounds_toArray, List.set_cons_zero, List.set_cons_succ]
   refine wpAnyH_take (i := 10) (v := ?_) rfl (by kernel_rfl) (by kernel_rfl) (by kernel_rfl) (fun _ _ _ h => h) (Or.inl ⟨by rfl, ?_⟩) hS ?_
   rotate_left
   · intro W_ hW_; have c_ := Rw.cell (hW_.2.2.1) 0 rfl; go_simp; try with_reducible rfl
   simp only [List.getElem_toArray, List.getElem_cons_zero, List.getElem_cons_succ, Act.put, List.setIfInBounds_toArray, List.set_cons_zero, List.set_cons_succ]
   refine wpAnyH_take (i := 11) (v := ?_) rfl (by kernel_rfl) (by kernel_rfl) (by kernel_rfl) (fun _ _ _ h => h) (Or.inl ⟨by rfl, ?_⟩) hS ?_
   rotate_left
   · intro w _; go_simp; try with_reducible rfl
   simp only [List.getElem_toArray, List.getElem_cons_zero, List.getElem_cons_succ, Act.put, List.setIfInBounds_toArray, List.set_cons_zero, List.set_cons_succ]
   refine wpAnyH_take (i := 12) (v := ?_) rfl (by kernel_rfl) (by kernel_rfl) (by kernel_rfl) (fun _ _ _ h => h) (Or.inl ⟨by rfl, ?_⟩) hS ?_
   rotate_left
   · intro W_ hW_; have c_ := Rw.cell (hW_.2.2.1) 1 rfl; go_simp; try with_reducible rfl
   simp only [List.getElem_toArray, List.getElem_cons_zero, List.getElem_cons_succ, Act.put, List.setIfInBounds_toArray, List.set_cons_zero, List.set_cons_succ]
   refine wpAnyH_take (i := 13) (v := ?_) rfl (by kernel_rfl) (by kernel_rfl) (by kernel_rfl) (fun _ _ _ h => h) (Or.inl ⟨by rfl, ?_⟩) hS ?_
   rotate_left
   · intro w _; go_simp; try with_reducible rfl
   simp only [List.getElem_toArray, List.getElem_cons_zero, List.getElem_cons_succ, Act.put, List.setIfInBounds_toArray, List.set_cons_zero, List.set_cons_succ]
   refine wpAnyH_take (i := 14) (v := ?_) rfl (by kernel_rfl) (by kernel_rfl) (by kernel_rfl) (fun _ _ _ h => h) (Or.inl ⟨by rfl, ?_⟩) hS ?_
   rotate_left
   · intro W_ hW_; have c_ := Rw.cell (hW_.2.2.2.1) 0 rfl; go_simp; try with_reducible rfl
   simp only [List.getElem_toArray, List.getElem_cons_zero, List.getElem_cons_succ, Act.put, List.setIfInBounds_toArray, List.set_cons_zero, List.set_cons_succ]
   refine wpAnyH_take (i := 15) (v := ?_) rfl (by kernel_rfl) (by kernel_rfl) (by kernel_rfl) (fun _ _ _ h => h) (Or.inl ⟨by rfl, ?_⟩) hS ?_
   rotate_left
   · intro w _; go_simp; try with_reducible rfl
   simp only [List.getElem_toArray, List.getElem_cons_zero, List.getElem_cons_succ, Act.put, List.setIfInBounds_toArray, List.set_cons_zero, List.set_cons_succ]
   refine wpAnyH_take (i := 16) (v := ?_) rfl (by kernel_rfl) (by kernel_rfl) (by kernel_rfl) (fun _ _ _ h => h) (Or.inl ⟨by rfl, ?_⟩) hS ?_
   rotate_left
   · intro W_ hW_; have c_ := Rw.cell (hW_.2.2.2.1) 1 rfl; go_simp; try with_reducible rfl
   simp only [List.getElem_toArray, List.getElem_cons_zero, List.getElem_cons_succ, Act.put, List.setIfInBounds_toArray, List.set_cons_zero, List.set_cons_succ]
   refine wpAnyH_take (i := 17) (v := ?_) rfl (by kernel_rfl) (by kernel_rfl) (by kernel_rfl) (fun _ _ _ h => h) (Or.inl ⟨by rfl, ?_⟩) hS ?_
   rotate_left
   · intro w _; go_simp; try with_reducible rfl
   simp only [List.getElem_toArray, List.getElem_cons_zero, List.getElem_cons_succ, Act.put, List.setIfInBounds_toArray, List.set_cons_zero, List.set_cons_succ]
   refine wpAnyH_take (i := 18) (v := ?_) rfl (by kernel_rfl) (by kernel_rfl) (by kernel_rfl) (fun _ _ _ h => h) (Or.inl ⟨by rfl, ?_⟩) hS ?_
   rotate_left
   · intro W_ hW_; have c_ := Rw.cell (hW_.2.2.2.2) 0 rfl; go_simp; try with_reducible rfl
   simp only [List.getElem_toArray, List.getElem_cons_zero, List.getElem_cons_succ, Act.put, List.setIfInBounds_toArray, List.set_cons_zero, List.set_cons_succ]
   refine wpAnyH_take (i := 19) (v := ?_) rfl (by kernel_rfl) (by kernel_rfl) (by kernel_rfl) (fun _ _ _ h => h) (Or.inl ⟨by rfl, ?_⟩) hS ?_
   rotate_left
   · intro w _; go_simp; try with_reducible rfl
   simp only [List.getElem_toArray, List.getElem_cons_zero, List.getElem_cons_succ, Act.put, List.setIfInBounds_toArray, List.set_cons_zero, List.set_cons_succ]
   refine wpAnyH_take (i := 20) (v := ?_) rfl (by kernel_rfl) (by kernel_rfl) (by kernel_rfl) (fun _ _ _ h => h) (Or.inl ⟨by rfl, ?_⟩) hS ?_
   rotate_left
   · intro W_ hW_; have c_ := Rw.cell (hW_.2.2.2.2) 1 rfl; go_simp; try with_reducible rfl
   simp only [List.getElem_toArray, List.getElem_cons_zero, List.getElem_cons_succ, Act.put, List.setIfInBounds_toArray, List.set_cons_zero, List.set_cons_succ]
   refine wpAnyH_ready (rs := [21]) (by kernel_rfl) (by simp) ?_
   refine AllReadyH.cons rfl (fun K hK => ?_) AllReadyH.nil
   rw [if_pos (by rfl)]
   simp only [List.getElem_toArray, List.getElem_cons_zero, List.getElem_cons_succ]
   go_simp
   refine (Order_c w19 (tL.below hB)).mono ?_; rintro e_ w20 ⟨gO, rfl, hgq_, hkq_, hb⟩
   dsimp only
   have nO := NewA.of_rw (k := .u32) (E := 36) (n := 8) hkq_ hgq_ rfl (by omega)
   obtain ⟨VZ, AZ, fmZ, rr_, aa_, ez_, -, -⟩ := fm61.push' (nO.mono hB.size) hb (fun g hg => (nO.lt g hg).1)
   have RRZ := Lib.hid rr_
   have AAZ := Lib.hid aa_
   have EZ := Lib.hid ez_
   clear rr_ aa_ ez_ nO
   replace hB := hB.trans (hb.mono hB.size)
   replace rl := rl.keep hb
   replace rt := rt.keep hb
   replace hk6 := hk6.keep hb
   replace hk8 := hk8.keep hb
   replace hk9 := hk9.keep hb
   replace hk11 := hk11.keep hb
   replace hk13 := hk13.keep hb
   replace ft2 := ft2.keep hb
   clear hb hkq_ hgq_ fm61
   refine hK.out _ _ ⟨hk6, hk8, hk9, hk11, hk13⟩ (fun hS => ?_)
   refine wpAnyH_ready (rs := [22]) (by kernel_rfl) (by simp) ?_
   refine AllReadyH.cons rfl (fun K hK => ?_) AllReadyH.nil
   rw [if_pos (by rfl)]
   simp only [List.getElem_toArray, List.getElem_cons_zero, List.getElem_cons_succ]
   go_simp
   have al := (Below.refl w20.heap.size w20).alloc (Nat.le_refl _) (.cells #[(Value.slice ax43 zx43.length px43), (Value.slice ay43 zy43.length py43), (Value.slice (some ⟨gx46, 0, none⟩) 8 8), (Value.slice (some ⟨gy46, 0, none⟩) 8 8), (Value.slice ax50 zx50.length px50), (Value.slice ay50 zy50.length py50), (Value.slice ax56 zx56.length px56), (Value.slice ay56 zy56.length py56), (Value.slice ax61 zx61.length px61), (Value.slice ay61 zy61.length py61), (Value.slice (some ⟨gO, 0, none⟩) 8 8)] 27)
   have asz : (w20.alloc (.cells #[(Value.slice ax43 zx43.length px43), (Value.slice ay43 zy43.length py43), (Value.slice (some ⟨gx46, 0, none⟩) 8 8), (Value.slice (some ⟨gy46, 0, none⟩) 8 8), (Value.slice ax50 zx50.length px50), (Value.slice ay50 zy50.length py50), (Value.slice ax56 zx56.length px56), (Value.slice ay56 zy56.length py56), (Value.slice ax61 zx61.length px61), (Value.slice ay61 zy61.length py61), (Value.slice (some ⟨gO, 0, none⟩) 8 8)] 27)).heap.size = w20.heap.size + 1 := by simp
   obtain ⟨us, hus⟩ : ∃ us, us = [(Value.slice ax43 zx43.length px43), (Value.slice ay43 zy43.length py43), (Value.slice (some ⟨gx46, 0, none⟩) 8 8), (Value.slice (some ⟨gy46, 0, none⟩) 8 8), (Value.slice ax50 zx50.length px50), (Value.slice ay50 zy50.length py50), (Value.slice ax56 zx56.length px56), (Value.slice ay56 zy56.length py56), (Value.slice ax61 zx61.length px61), (Value.slice ay61 zy61.length py61), (Value.slice (some ⟨gO, 0, none⟩) 8 8)] := ⟨_, rfl⟩
   have hcells := cells_news w20 27 us #[(Value.slice ax43 zx43.length px43), (Value.slice ay43 zy43.length py43), (Value.slice (some ⟨gx46, 0, none⟩) 8 8), (Value.slice (some ⟨gy46, 0, none⟩) 8 8), (Value.slice ax50 zx50.length px50), (Value.slice ay50 zy50.length py50), (Value.slice ax56 zx56.length px56), (Value.slice ay56 zy56.length py56), (Value.slice ax61 zx61.length px61), (Value.slice ay61 zy61.length py61), (Value.slice (some ⟨gO, 0, none⟩) 8 8)] (by rw [hus]) _ rfl
   have lus : us.length = 11 := by rw [hus]; rfl
   have hone_ : ∀ u ∈ us, ∃ a n c, u = Value.slice a n c := by
    intro u hu
    rw [hus] at hu
    simp only [List.mem_cons, List.not_mem_nil, or_false] at hu
    rcases hu with rfl | rfl | rfl | rfl | rfl | rfl | rfl | rfl | rfl | rfl | rfl <;> exact ⟨_, _, _, rfl⟩
   have RRA : (List.range (q + 11)).map VZ = (List.range q).map V ++ us := by
    rw [show q + 11 = q + 2 + 2 + 2 + 2 + 2 + 1 from rfl, RRZ.out, RR61.out, RR56.out, RR50.out, RR46.out, RR43.out, hus]
    simp only [List.append_assoc, List.cons_append, List.nil_append]
   have NUM : ∀ c, c < 11 → NumL (AZ (q + c)) (qOf rd PA PB PC c) := by
    intro c hc
    rcases (show c = 0 ∨ c = 1 ∨ c = 2 ∨ c = 3 ∨ c = 4 ∨ c = 5 ∨ c = 6 ∨ c = 7 ∨ c = 8 ∨ c = 9 ∨ c = 10 by omega) with h | h | h | h | h | h | h | h | h | h | h <;> subst h
    ·
     rw [AAZ.out _ (by omega), AA61.out _ (by omega), AA56.out _ (by omega), AA50.out _ (by omega), AA46.out _ (by omega)]; exact MX43.out
    ·
     rw [AAZ.out _ (by omega), AA61.out _ (by omega), AA56.out _ (by omega), AA50.out _ (by omega), AA46.out _ (by omega)]; exact MY43.out
    ·
     rw [AAZ.out _ (by omega), AA61.out _ (by omega), AA56.out _ (by omega), AA50.out _ (by omega)]; exact MX46.out
    ·
     rw [AAZ.out _ (by omega), AA61.out _ (by omega), AA56.out _ (by omega), AA50.out _ (by omega)]; exact MY46.out
    ·
     rw [AAZ.out _ (by omega), AA61.out _ (by omega), AA56.out _ (by omega)]; exact MX50.out
    ·
     rw [AAZ.out _ (by omega), AA61.out _ (by omega), AA56.out _ (by omega)]; exact MY50.out
    ·
     rw [AAZ.out _ (by omega), AA61.out _ (by omega)]; exact MX56.out
    ·
     rw [AAZ.out _ (by omega), AA61.out _ (by omega)]; exact MY56.out
    ·
     rw [AAZ.out _ (by omega)]; exact MX61.out
    ·
     rw [AAZ.out _ (by omega)]; exact MY61.out
    ·
     rw [show q + 10 = q + 2 + 2 + 2 + 2 + 2 from rfl, EZ.out]; exact numL_of8 lim8_L
   have OLD : ∀ j, j < q → AZ j = A j := fun j hj => by rw [AAZ.out _ (by omega), AA61.out _ (by omega), AA56.out _ (by omega), AA50.out _ (by omega), AA46.out _ (by omega), AA43.out _ hj]
   have NUMS : Hid (∀ j, j < 11 * (i + 1) → NumL (AZ j) (qOf rd PA PB PC (j % 11))) := Lib.hid fun j hj => by
    by_cases h0 : j < q
    ·
     rw [OLD j h0]; exact hN.out j (by rw [← HQ.out]; exact h0)
    ·
     obtain ⟨c, rfl⟩ : ∃ c, j = q + c := ⟨j - q, by omega⟩
     have hqq := HQ.out
     have hc : c < 11 := by omega
     rw [show (q + c) % 11 = c by omega]
     exact NUM c hc
   have ENCS : Hid (∀ j, j < i + 1 → AT2 j = C) := Lib.hid fun j hj => by
    by_cases h0 : j < i
    ·
     rw [AT_.out j h0]; exact hE.out j h0
    ·
     obtain rfl : j = i := by omega
     exact ET.out
   have RRH := Lib.hid RRA
   have LUS := Lib.hid lus
   have hq22 : q ≤ 11 := by have := HQ.out; omega
   have p11 : 0 < us.length := by omega
   clear NUM OLD RRA RRZ RR61 RR56 RR50 RR46 RR43 AAZ AA61 AA56 AA50 AA46 AA43 EZ MX43 MY43 MX46 MY46 MX50 MY50 MX56 MY56 MX61 MY61 hus lus hN hE AT_ ET
   have hb := al
   replace hB := hB.trans (hb.mono hB.size)
   replace rl := rl.keep hb
   replace rt := rt.keep hb
   replace hk6 := hk6.keep hb
   replace hk8 := hk8.keep hb
   replace hk9 := hk9.keep hb
   replace hk11 := hk11.keep hb
   replace hk13 := hk13.keep hb
   replace ft2 := ft2.keep hb
   replace fmZ := fmZ.keep hb
   clear hb
   obtain ⟨wz, hwz⟩ : ∃ x, x = w20.alloc (.cells #[(Value.slice ax43 zx43.length px43), (Value.slice ay43 zy43.length py43), (Value.slice (some ⟨gx46, 0, none⟩) 8 8), (Value.slice (some ⟨gy46, 0, none⟩) 8 8), (Value.slice ax50 zx50.length px50), (Value.slice ay50 zy50.length py50), (Value.slice ax56 zx56.length px56), (Value.slice ay56 zy56.length py56), (Value.slice ax61 zx61.length px61), (Value.slice ay61 zy61.length py61), (Value.slice (some ⟨gO, 0, none⟩) 8 8)] 27) := ⟨_, rfl⟩
   rw [← hwz] at asz hcells hB rl rt hk6 hk8 hk9 hk11 hk13 ft2 fmZ ⊢
   clear hwz al
   refine hK.out _ _ ⟨hk6, hk8, hk9, hk11, hk13⟩ (fun hS => ?_)
   refine wpAnyH_ready (rs := [23]) (by kernel_rfl) (by simp) ?_
   refine AllReadyH.cons rfl (fun K hK => ?_) AllReadyH.nil
   rw [if_pos (by rfl)]
   simp only [List.getElem_toArray, List.getElem_cons_zero, List.getElem_cons_succ]
   refine wp_append_newVs _ _ 24 rfl w.heap.size 27 24 Tryd.underlying24 infoN13 _ ((List.range q).map V) rfl rl ⟨w20.heap.size, 0, none⟩ 11 us hone_ (by rw [LUS.out]; rfl) hcells p11 (by rw [LUS.out]; simp; omega) (by rw [LUS.out]; simp; omega) hB.size ?_
   intro l' wy hn_ hg_ _
   replace rt := rt.keptV rl (by decide) hg_
   replace ft2 := ft2.pastV rl (by decide) hg_
   replace fmZ := fmZ.pastV rl (by decide) hg_
   replace hk6 := hk6.grown hg_ (rl.aside_rw hk6 (by decide))
   replace hk8 := hk8.grown hg_ (rl.aside_rw hk8 (by decide))
   replace hk9 := hk9.grown hg_ (rl.aside_rw hk9 (by decide))
   replace hk11 := hk11.grown hg_ (rl.aside_rw hk11 (by decide))
   replace hk13 := hk13.grown hg_ (rl.aside_rw hk13 (by decide))
   replace hB := hB.grown hg_ hB.size (fun g hg => (rl.lt g hg).1)
   have hL : Lists w.heap.size .u32 36 95 27 wy l' (q + 11) VZ AZ := ⟨by rw [RRH.out]; exact hn_, fmZ⟩
   clear rl hn_ hg_ hone_ hcells fmZ
   refine hK.out _ _ ⟨hk6, hk8, hk9, hk11, hk13⟩ (fun hS => ?_)
   refine wpAnyH_ready (rs := [24]) (by kernel_rfl) (by simp) ?_
   refine AllReadyH.cons rfl (fun K hK => ?_) AllReadyH.nil
   rw [if_pos (by rfl)]
   simp only [List.getElem_toArray, List.getElem_cons_zero, List.getElem_cons_succ]
   go_simp
   refine hK.out _ _ hS (fun hS => ?_)
   refine wpAnyH_done (by kernel_rfl) ?_ _
   clear hS hk6 hk8 hk9 hk11 hk13
   have al := (Below.refl wy.heap.size wy).alloc (Nat.le_refl _) (.cells #[.slice eE 32 qE] 22)
   have as1 : (wy.alloc (.cells #[.slice eE 32 qE] 22)).heap.size = wy.heap.size + 1 := by simp
   have hBs := hB.size
   have ft3 := ft2.keep al
   have rt3 := rt.keep al
   have hL3 := hL.keep al
   have hB3 := hB.trans (al.mono hBs)
   have hi3 : i ≤ 2 := by omega
   clear ft2 rt hL hB
   go_wp2_with (at_builtin; refine wpList_append_newV _ rfl _ _ 25 rfl w.heap.size 22 24 Tryd.underlying25 infoBh _ ((List.range i).map VT) rfl rt3 _ 1 (.slice eE 32 qE) ⟨_, _, _, rfl⟩ rfl (cell_new1 _ _ _ _) (by simp; omega) (by simp; omega) (by rw [as1]; omega) ?_)
   intro t' wx hn_ hg_ _
   have ft4 := ft3.pastV rt3 (by decide) hg_
   have hL4 := hL3.pastV rt3 (by decide) (by decide) hg_
   have hB4 := hB3.grown hg_ hB3.size (fun g hg => (rt3.lt g hg).1)
   have hT4 : Lists w.heap.size .u8 5 5 22 wx t' (i + 1) VT2 AT2 := ⟨by rw [RT.out]; exact hn_, ft4⟩
   clear ft3 rt3 hL3 hB3 hg_ hn_ ft4 al
   go_wp2_with fail
   go_roundw
   case rel => exact ⟨i + 1, VZ, AZ, VT2, AT2, by omega, by go_num, by rw [show 11 * (i + 1) = q + 11 by have := HQ.out; omega]; exact hL4, hT4, NUMS, ENCS, hB4⟩
   case measure => simp [intOf]; omega
  ·
   obtain rfl : i = 2 := by omega
   have hd : decide ((2 : Int) < 2) = false := by decide
   obtain rfl : q = 22 := HQ.out
   rw [show ((2 : Nat) : Int) = 2 from rfl]
   obtain ⟨gl, rfl, _⟩ := hL.row.place (show 0 < 22 by omega)
   obtain ⟨w5, rfl⟩ : ∃ x, x = wr := ⟨_, rfl⟩
   have h0 := Below.refl w5.heap.size w5
   have LL := Lib.hid hL
   go_wp2_with fail
   go_loopw [17, 18] (fun wa t wr => ∃ (i : Nat) (VW : Nat → Value) (AW : Nat → List Int), i ≤ 11 ∧ t = .int .i64 (i : Int) ∧ Lists w5.heap.size .u32 36 95 27 wr wa i VW AW ∧ Hid (∀ j, j < i → AW j = A j) ∧ Below w5.heap.size w5 wr) (fun _ t _ => 11 - (intOf t).toNat)
   case atStart => exact ⟨0, fun _ => undef, fun _ => [], by omega, rfl, ⟨.nil _ _ _, .zero _ _ _ _ _ _ _⟩, Lib.hid (fun j h => by omega), h0⟩
   case round =>
    clear h0 hL
    obtain ⟨i, VW, AW, hi, rfl, hW, hA, hb⟩ := hrel
    obtain ⟨aw, cw, rfl⟩ := hW.sl
    by_cases hlt : i < 11
    ·
     have hd : decide ((i : Int) < 11) = true := decide_eq_true (by omega)
     have hi11 : (i : Int) < 11 := by omega
     have L1 := LL.out.keep hb
     obtain ⟨gq, e_, cA⟩ := L1.row.place (show i < 22 by omega)
     cases e_
     obtain ⟨gq, e_, cB⟩ := L1.row.place (show i + 11 < 22 by omega)
     cases e_
     obtain ⟨aj, cj, hVj, sj, -⟩ := L1.fam.own (show i < 22 by omega)
     obtain ⟨bj, dj, hUj, tj, -⟩ := L1.fam.own (show i + 11 < 22 by omega)
     have ez : A (i + 11) = A i := by
      have h1 := hN.out (i + 11) (by omega)
      have h2 := hN.out i (by omega)
      rw [show (i + 11) % 11 = i % 11 by omega] at h1
      exact h1.ext h2
     rw [hVj] at cA
     rw [hUj, ez] at cB
     rw [ez] at tj
     obtain ⟨z, hz_⟩ : ∃ z, z = A i := ⟨_, rfl⟩
     have lz8 := (hN.out i (by omega)).2.2.2
     rw [← hz_] at cA cB sj tj lz8
     have HZ := Lib.hid hz_
     obtain ⟨p, hp⟩ : ∃ p, p = i + 11 := ⟨_, rfl⟩
     rw [← hp] at cB
     have hwr : IntKind.i64.wrap ((i : Int) + 11) = (p : Int) := by rw [IntKind.wrap_i64]; omega
     have hp22 : (p : Int) < 22 := by omega
     have hi22 : (i : Int) < 22 := by omega
     have SM := fun (W : World) (h : Below wr.heap.size wr W) => sameNat_c aj bj cj dj z z W (sj.below h) (tj.below h)
     rw [show decide (z = z) = true from decide_eq_true rfl] at SM
     have WD := fun (W : World) (h : Below wr.heap.size wr W) => wide_c aj cj z W (sj.below h) (by omega)
     unfold WidePost at WD
     obtain ⟨lz, hlz⟩ : ∃ l, l = z.length := ⟨_, rfl⟩
     rw [← hlz] at cA cB SM WD lz8
     have HLZ := Lib.hid hlz
     clear hVj hUj hz_ hlz ez sj tj L1 hp
     go_wp2_with fail
     refine wp_region_held_drew (S := fun W_ => W_.cell? ⟨gl, i, none⟩ = some (.slice aj lz cj) ∧ W_.cell? ⟨gl, p, none⟩ = some (.slice bj lz dj)) (by kernel_rfl) (⟨cA, cB⟩) (fun hS => ?_)
     have hd0 := below_drewN (Below.refl wr.heap.size wr) 1
     obtain ⟨wx, hw_⟩ : ∃ x, x = World.drew wr := ⟨_, rfl⟩
     rw [show World.drewN wr 1 = wx from hw_.symm] at hd0
     rw [← hw_] at hS ⊢
     clear hw_
     have cm := SM wx hd0
     refine wpAnyH_take (i := 0) (v := ?_) rfl (by kernel_rfl) (by kernel_rfl) (by kernel_rfl) (fun _ _ _ h => h) (Or.inl ⟨by rfl, ?_⟩) hS ?_
     rotate_left
     · intro w _; go_simp; try with_reducible rfl
     simp only [List.getElem_toArray, List.getElem_cons_zero, List.getElem_cons_succ, Act.put, List.setIfInBounds_toArray, List.set_cons_zero, List.set_cons_succ]
     refine wpAnyH_take (i := 1) (v := ?_) rfl (by kernel_rfl) (by kernel_rfl) (by kernel_rfl) (fun _ _ _ h => h) (Or.inl ⟨by rfl, ?_⟩) hS ?_
     rotate_left
     · intro w _; go_simp; try with_reducible rfl
     simp only [List.getElem_toArray, List.getElem_cons_zero, List.getElem_cons_succ, Act.put, List.setIfInBounds_toArray, List.set_cons_zero, List.set_cons_succ]
     refine wpAnyH_take (i := 2) (v := ?_) rfl (by kernel_rfl) (by kernel_rfl) (by kernel_rfl) (fun _ _ _ h => h) (Or.inl ⟨by rfl, ?_⟩) hS ?_
     rotate_left
     · intro w _; go_simp; try with_reducible rfl
     simp only [List.getElem_toArray, List.getElem_cons_zero, List.getElem_cons_succ, Act.put, List.setIfInBounds_toArray, List.set_cons_zero, List.set_cons_succ]
     refine wpAnyH_take (i := 3) (v := ?_) rfl (by kernel_rfl) (by kernel_rfl) (by kernel_rfl) (fun _ _ _ h => h) (Or.inl ⟨by rfl, ?_⟩) hS ?_
     rotate_left
     · intro W_ hW_; obtain ⟨c1_, c2_⟩ := hW_; go_simp; try with_reducible rfl
     simp only [List.getElem_toArray, List.getElem_cons_zero, List.getElem_cons_succ, Act.put, List.setIfInBounds_toArray, List.set_cons_zero, List.set_cons_succ]
     refine wpAnyH_take (i := 4) (v := ?_) rfl (by kernel_rfl) (by kernel_rfl) (by kernel_rfl) (fun _ _ _ h => h) (Or.inl ⟨by rfl, ?_⟩) hS ?_
     rotate_left
     · intro w _; go_simp; try with_reducible rfl
     simp only [List.getElem_toArray, List.getElem_cons_zero, List.getElem_cons_succ, Act.put, List.setIfInBounds_toArray, List.set_cons_zero, List.set_cons_succ]
     refine wpAnyH_take (i := 5) (v := ?_) rfl (by kernel_rfl) (by kernel_rfl) (by kernel_rfl) (fun _ _ _ h => h) (Or.inl ⟨by rfl, ?_⟩) hS ?_
     rotate_left
     · intro w _; go_simp; try with_reducible rfl
     simp only [List.getElem_toArray, List.getElem_cons_zero, List.getElem_cons_succ, Act.put, List.setIfInBounds_toArray, List.set_cons_zero, List.set_cons_succ]
     refine wpAnyH_take (i := 6) (v := ?_) rfl (by kernel_rfl) (by kernel_rfl) (by kernel_rfl) (fun _ _ _ h => h) (Or.inl ⟨by rfl, ?_⟩) hS ?_
     rotate_left
     · intro w _; go_simp; try with_reducible rfl
     simp only [List.getElem_toArray, List.getElem_cons_zero, List.getElem_cons_succ, Act.put, List.setIfInBounds_toArray, List.set_cons_zero, List.set_cons_succ]
     refine wpAnyH_take (i := 7) (v := ?_) rfl (by kernel_rfl) (by kernel_rfl) (by kernel_rfl) (fun _ _ _ h => h) (Or.inl ⟨by rfl, ?_⟩) hS ?_
     rotate_left
     · intro w _; go_simp; try with_reducible rfl
     simp only [List.getElem_toArray, List.getElem_cons_zero, List.getElem_cons_succ, Act.put, List.setIfInBounds_toArray, List.set_cons_zero, List.set_cons_succ]
     refine wpAnyH_take (i := 8) (v := ?_) rfl (by kernel_rfl) (by kernel_rfl) (by kernel_rfl) (fun _ _ _ h => h) (Or.inl ⟨by rfl, ?_⟩) hS ?_
     rotate_left
     · intro W_ hW_; obtain ⟨c1_, c2_⟩ := hW_; go_simp; try with_reducible rfl
     simp only [List.getElem_toArray, List.getElem_cons_zero, List.getElem_cons_succ, Act.put, List.setIfInBounds_toArray, List.set_cons_zero, List.set_cons_succ]
     refine wpAnyH_ready (rs := [9]) (by kernel_rfl) (by simp) ?_
     refine AllReadyH.cons rfl (fun K hK => ?_) AllReadyH.nil
     rw [if_pos (by rfl)]
     simp only [List.getElem_toArray, List.getElem_cons_zero, List.getElem_cons_succ]
     go_simp
     refine cm.mono ?_; rintro e_ wy ⟨rfl, hd_⟩
     dsimp only
     have hby := hd0.trans (hd_.b.mono hd0.size)
     have hS' : wy.cell? ⟨gl, i, none⟩ = some (.slice aj lz cj) ∧ wy.cell? ⟨gl, p, none⟩ = some (.slice bj lz dj) := ⟨(World.cell?_of_block (a := ⟨gl, i, none⟩) (hby.block gl (World.block_lt_of_cell? wr _ cA))).trans cA, (World.cell?_of_block (a := ⟨gl, p, none⟩) (hby.block gl (World.block_lt_of_cell? wr _ cB))).trans cB⟩
     refine hK.out _ _ hS' (fun hS => ?_)
     refine wpAnyH_take (i := 10) (v := ?_) rfl (by kernel_rfl) (by kernel_rfl) (by kernel_rfl) (fun _ _ _ h => h) (Or.inl ⟨by rfl, ?_⟩) hS ?_
     rotate_left
     · intro w _; go_simp; try with_reducible rfl
     simp only [List.getElem_toArray, List.getElem_cons_zero, List.getElem_cons_succ, Act.put, List.setIfInBounds_toArray, List.set_cons_zero, List.set_cons_succ]
     refine wpAnyH_done (by kernel_rfl) ?_ _
     have cA2 := hS'.1
     have wd := WD wy hby
     have hW2 := hW.keep hby
     have hb2 := hb.trans (hby.mono hb.size)
     clear hS hS' cm SM WD cA cB hd_ hd0 hby hW hb
     go_wp2_with fail
     refine wd.mono ?_; rintro e_ wz ⟨g, rfl, hg, hk, hb9⟩
     have nw : New wy.heap.size .u32 36 wz (.slice (some ⟨g, 0, none⟩) z.length (z.length + 4)) z := by
      have h := New.of_blk hk hg z.length (z.length + 4) (by omega) (by rw [List.length_append]; exact Nat.le_refl _) (by have := HLZ.out; omega)
      rwa [List.take_left] at h
     rw [← HLZ.out] at nw
     obtain ⟨VW2, AW2, fw, rt_, at_, et_, -, -⟩ := hW2.fam.push' (nw.mix.mono hb2.size) hb9 (fun g hg => (nw.lt g hg).1)
     have RT := Lib.hid rt_
     have AT_ := Lib.hid at_
     have ET := Lib.hid et_
     have rw2 := hW2.row.keep hb9
     have hb3 := hb2.trans (hb9.mono hb2.size)
     have al := (Below.refl wz.heap.size wz).alloc (Nat.le_refl _) (.cells #[.slice (some ⟨g, 0, none⟩) lz (lz + 4)] 27)
     have as1 : (wz.alloc (.cells #[.slice (some ⟨g, 0, none⟩) lz (lz + 4)] 27)).heap.size = wz.heap.size + 1 := by simp
     have hBs := hb3.size
     have fw3 := fw.keep al
     have rw3 := rw2.keep al
     have hb4 := hb3.trans (al.mono hBs)
     have hi3 : i ≤ 11 := by omega
     clear rt_ at_ et_ nw hk hg fw rw2 hb3 hb2 hW2 wd hb9 cA2
     go_wp2_with (at_builtin; refine wpList_append_newV _ rfl _ _ 24 rfl w5.heap.size 27 24 Tryd.underlying24 infoN13 _ ((List.range i).map VW) rfl rw3 _ 1 (.slice (some ⟨g, 0, none⟩) lz (lz + 4)) ⟨_, _, _, rfl⟩ rfl (cell_new1 _ _ _ _) (by simp; omega) (by simp; omega) (by rw [as1]; omega) ?_)
     intro wa' w6 hn_ hg_ _
     have fw6 := fw3.pastV rw3 (by decide) hg_
     have hb6 := hb4.grown hg_ hb4.size (fun g hg => (rw3.lt g hg).1)
     have hW6 : Lists w5.heap.size .u32 36 95 27 w6 wa' (i + 1) VW2 AW2 := ⟨by rw [RT.out]; exact hn_, fw6⟩
     clear fw3 rw3 hb4 hg_ hn_ fw6 al
     go_wp2_with fail
     go_roundw
     case rel => exact ⟨i + 1, VW2, AW2, by omega, by go_num, hW6, Lib.hid (fun j hj => by
      by_cases h : j = i
      ·
       rw [h, ET.out, HZ.out]
      ·
       rw [AT_.out j (by omega)]; exact hA.out j (by omega)), hb6⟩
     case measure => simp [intOf]; omega
    ·
     obtain rfl : i = 11 := by omega
     have hd : decide ((11 : Int) < 11) = false := by decide
     rw [show ((11 : Nat) : Int) = 11 from rfl]
     obtain ⟨w6, rfl⟩ : ∃ x, x = wr := ⟨_, rfl⟩
     have HB5 := Lib.hid hB
     have HT5 := Lib.hid hT
     have HW6 := Lib.hid hW
     have HB6 := Lib.hid hb
     have hL := LL.out.keep hb
     have LENS : Hid (∀ j, j < 22 → (A j).length ≤ 8) := Lib.hid fun j hj => (hN.out j hj).2.2.2
     have HBW : Hid (w.heap.size ≤ w6.heap.size) := Lib.hid (Nat.le_trans hB.size hb.size)
     obtain ⟨gT, rfl, -⟩ := hT.row.place (show 0 < 2 by omega)
     obtain ⟨gW, rfl, -⟩ := hW.row.place (show 0 < 11 by omega)
     clear hT hW hb hB
     obtain ⟨f1, hf1⟩ : ∃ f : Nat → Int, f = fun (j : Nat) => 1000 + (j : Int) := ⟨_, rfl⟩
     have HF1 : ∀ j, f1 j = 1000 + (j : Int) := fun j => by rw [hf1]
     have hL0 := hL.congr (A' := fillF f1 A 0 0) (fun j _ => (fillF_start f1 A j).symm)
     clear hf1 hL
     go_wp2_with fail
     go_loopw [19] (fun t wr => ∃ i : Nat, i ≤ 22 ∧ t = .int .i64 (i : Int) ∧ Lists w.heap.size .u32 36 95 27 wr (.slice (some ⟨gl, 0, none⟩) 22 cl_) 22 V (fillF f1 A i 0) ∧ FrV V 22 w6 wr ∧ Below w.heap.size w6 wr) (fun t _ => 22 - (intOf t).toNat)
     case atStart => exact ⟨0, by omega, rfl, hL0, .refl _ _ _, .refl _ _⟩
     case round =>
      clear hL0
      obtain ⟨i, hi, rfl, hL, hF, hB2⟩ := hrel
      by_cases hlt : i < 22
      ·
       have hd : decide ((i : Int) < 22) = true := decide_eq_true (by omega)
       as_aux_lemma =>
       have hi10 : (i : Int) < 22 := by omega
       obtain ⟨zi, hzi⟩ : ∃ z, z = (A i).length := ⟨_, rfl⟩
       have HZI := Lib.hid hzi
       have zb : zi ≤ 8 := by rw [hzi]; exact LENS.out i hlt
       obtain ⟨ai, ci, hVi, _, _⟩ := hL.fam.own hlt
       rw [fillF_len _ _ _ _ _ (by omega), ← hzi] at hVi
       have HV := Lib.hid hVi
       obtain ⟨w13, rfl⟩ : ∃ x, x = wr := ⟨_, rfl⟩
       clear hzi hVi hd
       have hd : decide ((i : Int) < 22) = true := decide_eq_true (by omega)
       go_wp2_with fail
       go_loopw [20] (fun t wr => ∃ k : Nat, k ≤ zi ∧ t = .int .i64 (k : Int) ∧ Lists w.heap.size .u32 36 95 27 wr (.slice (some ⟨gl, 0, none⟩) 22 cl_) 22 V (fillF f1 A i k) ∧ FrV V 22 w6 wr ∧ Below w.heap.size w6 wr) (fun t _ => zi - (intOf t).toNat)
       case atStart => exact ⟨0, by omega, rfl, hL, hF, hB2⟩
       case round =>
        clear hL hF hB2
        obtain ⟨k, hk, rfl, hL, hF, hB2⟩ := hrel
        obtain ⟨gl, e_, cell⟩ := hL.row.place hlt
        cases e_
        rw [HV.out] at cell
        by_cases hkl : k < zi
        ·
         have hdk : decide ((k : Int) < (zi : Int)) = true := decide_eq_true (by omega)
         have hkz : (k : Int) < (zi : Int) := by omega
         obtain ⟨g, c2, hv2, hfr, hcl, hg, hL2⟩ := hL.put (by decide) hlt (j := k) (by rw [fillF_len _ _ _ _ _ (by rw [← HZI.out]; omega), ← HZI.out]; exact hkl) (f1 i)
         rw [HV.out] at hv2
         simp only [Value.slice.injEq] at hv2
         obtain ⟨rfl, _, rfl⟩ := hv2
         have hL3 := hL2.congr (A' := fillF f1 A i (k + 1)) (fun j _ => fillF_step f1 A i k (by rw [← HZI.out]; exact hkl) j)
         have hF3 := hF.grown (grownBy_set _ ⟨g, k, none⟩ (.int .u32 (f1 i))) (fun g' hg' => .inr ⟨i, hlt, by cases hg'; rw [HV.out]; rfl⟩)
         have hB3 := hB2.setCell (p := ⟨g, k, none⟩) hg (.int .u32 (f1 i))
         rw [HF1 i] at hL3 hF3 hB3
         clear hL hL2 hF hB2
         go_wp2_with fail
         go_roundw
         case rel => exact ⟨k + 1, by omega, by go_num, hL3, hF3, hB3⟩
         case measure => simp [intOf]; omega
        ·
         obtain rfl : zi = k := by omega
         have hdk : decide ((zi : Int) < (zi : Int)) = false := by simp
         have hL3 := hL.congr (A' := fillF f1 A (i + 1) 0) (fun j _ => by rw [HZI.out]; exact fillF_next f1 A i j)
         go_wp2_with fail
         go_roundw
         case rel => exact ⟨i + 1, by omega, by go_num, hL3, hF, hB2⟩
         case measure => simp [intOf]; omega
      ·
       have hd : decide ((i : Int) < 22) = false := decide_eq_false (by omega)
       obtain rfl : i = 22 := by omega
       rw [show ((22 : Nat) : Int) = 22 from rfl]
       clear hd
       have hd : decide ((22 : Int) < 22) = false := by decide
       obtain ⟨A2, hA2⟩ : ∃ f : Nat → List Int, f = fun j => List.replicate (A j).length (1000 + (j : Int)) := ⟨_, rfl⟩
       have hLA := hL.congr (A' := A2) (fun j hj => by unfold fillF; rw [if_pos hj, HF1, hA2])
       have HA2 := Lib.hid hA2
       have lA2 : Hid (∀ j, j < 22 → (A2 j).length ≤ 8) := Lib.hid fun j hj => by rw [hA2]; simp only [List.length_replicate]; exact LENS.out j hj
       obtain ⟨w14, rfl⟩ : ∃ x, x = wr := ⟨_, rfl⟩
       obtain ⟨S, hS⟩ : ∃ x, x = w14.heap.size := ⟨_, rfl⟩
       have fm := hLA.fam.fam (S := S) (Nat.le_of_eq hS.symm)
       have fm0 := fm.congr (U' := V) (A' := A2) (X' := growF (fun j => 5000 + (j : Int)) 70 0 0) (fun _ _ => rfl) (fun j _ => (growF_start _ _ j).symm) (fun _ _ => rfl)
       have rw0 := hLA.row
       have hSw : S ≤ w14.heap.size := Nat.le_of_eq hS
       have hwS : w6.heap.size ≤ S := by rw [hS]; exact hF.1
       have LT := Lib.hid hLA.row.lt
       have HLS : Hid (∀ g, (Value.slice (some ⟨gl, 0, none⟩) 22 cl_).ownBlock = some g → g < S) := Lib.hid fun g hg => by rw [hS]; exact (LT.out g hg).2
       clear hL hLA fm hA2 hS LENS LT HF1
       go_wp2_with fail
       go_loopw [21, 22] (fun mo t wr => ∃ (j0 : Nat) (U : Nat → Value), j0 ≤ 22 ∧ t = .int .i64 (j0 : Int) ∧ Fam S w.heap.size .u32 36 95 wr 22 V U A2 (growF (fun j => 5000 + (j : Int)) 70 j0 0) ∧ Hid (∀ j, j0 ≤ j → U j = V j) ∧ NewV S 27 wr mo ((List.range j0).map U) ∧ NewV w.heap.size 27 wr (.slice (some ⟨gl, 0, none⟩) 22 cl_) ((List.range 22).map V) ∧ FrV V 22 w6 wr ∧ Below w.heap.size w6 wr ∧ S ≤ wr.heap.size) (fun _ t _ => 22 - (intOf t).toNat)
       case atStart => exact ⟨0, V, by omega, rfl, fm0, Lib.hid (fun _ _ => rfl), .nil _ _ _, rw0, hF, hB2, hSw⟩
       case round =>
        clear fm0 rw0 hF hB2 hSw hd
        obtain ⟨j0, U, hi, rfl, fm, hUV, hM, hR, hF, hB2, hSw⟩ := hrel
        obtain ⟨amo, cmo, rfl⟩ := hM.sl
        rw [List.length_map, List.length_range] at hM ⊢
        by_cases hlt : j0 < 22
        ·
         have hd : decide ((j0 : Int) < 22) = true := decide_eq_true (by omega)
         as_aux_lemma =>
         have hi10 : (j0 : Int) < 22 := by omega
         obtain ⟨gl, e_, cell⟩ := hR.place hlt
         cases e_
         obtain ⟨ai, ci, hVi, _, _⟩ := (fm.ext j0 hlt).sa
         rw [hVi] at cell
         obtain ⟨us, hus⟩ : ∃ us, us = (List.range j0).map U := ⟨_, rfl⟩
         rw [← hus] at hM
         have HUS := Lib.hid hus
         have lus : Hid (us.length = j0) := Lib.hid (by rw [hus]; simp)
         obtain ⟨w15, rfl⟩ : ∃ x, x = wr := ⟨_, rfl⟩
         clear hus
         go_wp2_with fail
         go_loopw [23, 24] (fun v t wr => ∃ (k : Nat) (U2 : Nat → Value), k ≤ 70 ∧ t = .int .i64 (k : Int) ∧ v = U2 j0 ∧ Fam S w.heap.size .u32 36 95 wr 22 V U2 A2 (growF (fun j => 5000 + (j : Int)) 70 j0 k) ∧ Hid (∀ j, j0 < j → U2 j = V j) ∧ Hid (∀ j, j < j0 → U2 j = U j) ∧ NewV S 27 wr (.slice amo j0 cmo) us ∧ NewV w.heap.size 27 wr (.slice (some ⟨gl, 0, none⟩) 22 cl_) ((List.range 22).map V) ∧ FrV V 22 w6 wr ∧ Below w.heap.size w6 wr ∧ S ≤ wr.heap.size) (fun _ t _ => 70 - (intOf t).toNat)
         case atStart => exact ⟨0, U, by omega, rfl, by rw [hUV.out j0 (Nat.le_refl _), hVi], fm, Lib.hid (fun j hj => hUV.out j (by omega)), Lib.hid (fun _ _ => rfl), hM, hR, hF, hB2, hSw⟩
         case round =>
          clear fm hM hR hF hB2 hSw cell
          obtain ⟨k, U2, hk, rfl, rfl, fm, hUV2, hUU, hM, hR, hF, hB2, hSw⟩ := hrel
          have ex := fm.ext j0 hlt
          obtain ⟨av, cv, hv, _⟩ := ex.nx.sl
          rw [growF_at] at hv
          obtain ⟨lv, hlv⟩ : ∃ x, x = (A2 j0 ++ List.replicate k (5000 + (j0 : Int))).length := ⟨_, rfl⟩
          rw [← hlv] at hv
          have lvb : lv ≤ 8 + 70 := by rw [hlv, List.length_append, List.length_replicate]; have := lA2.out j0 hlt; omega
          rw [hv]
          have HLV := Lib.hid hlv
          have HVV := Lib.hid hv
          have HOW := Lib.hid ex.own
          have HOL := Lib.hid ex.old
          clear hv hlv ex
          by_cases hkl : k < 70
          ·
           have hdk : decide ((k : Int) < 70) = true := decide_eq_true (by omega)
           have al := (Below.refl wr.heap.size wr).alloc (Nat.le_refl _) (.cells #[.int .u32 (5000 + (j0 : Int))] 36)
           have as1 : (wr.alloc (.cells #[.int .u32 (5000 + (j0 : Int))] 36)).heap.size = wr.heap.size + 1 := by simp
           have fm1 := fm.keep al
           have hM1 := hM.keep al
           have hR1 := hR.keep al
           have hF1 := hF.below al
           have hB1 := hB2.trans (al.mono (Nat.le_trans HBW.out (Nat.le_trans hwS hSw)))
           have nx := (fm1.ext j0 hlt).nx
           rw [growF_at, HVV.out] at nx
           have hlen : (A2 j0 ++ List.replicate k (5000 + (j0 : Int))).length ≤ 8 + 70 := by rw [← HLV.out]; exact lvb
           have hBS : w.heap.size ≤ wr.heap.size + 1 := by have := HBW.out; omega
           clear fm hM hR hF hB2
           go_wp2_with (at_builtin; refine wpList_append_keepA _ rfl _ _ 27 rfl w.heap.size 36 95 .u32 4 Tryd.underlying27 info32e _ _ rfl nx _ _ 1 [5000 + (j0 : Int)] rfl rfl (by simp) (cells_one _ _ _ _ _ rfl) (by simp only [List.length_singleton]; omega) (by simp only [List.length_singleton]; omega) (by rw [as1]; omega) ?_)
           intro u' w16 n1 n0 hg16 ho16
           go_simp
           have fm16 := fm1.append hlt (u' := u') (ys := [5000 + (j0 : Int)]) (by rw [growF_at]; exact n1) (by rw [growF_at, HVV.out]; exact n0) (by rw [HVV.out]; exact hg16) (by rw [HVV.out]; exact ho16) (by rw [as1]; omega)
           have fm17 := fm16.congr (U' := fun m => if m = j0 then u' else U2 m) (A' := A2) (X' := growF (fun j => 5000 + (j : Int)) 70 j0 (k + 1)) (fun _ _ => rfl) (fun j _ => growF_step (fun j => 5000 + (j : Int)) 70 j0 k j) (fun _ _ => rfl)
           have hM16 := hM1.keptN nx (by decide) hg16
           have hR16 := hR1.keptN nx (by decide) hg16
           have hF16 := hF1.grown hg16 (fun g hg => by
            rcases HOW.out g (by rw [HVV.out]; exact hg) with h1 | h1
            ·
             exact .inr ⟨j0, hlt, h1⟩
            ·
             exact .inl (by omega))
           have hB16 := hB1.grown hg16 (by rw [as1]; exact hBS) (fun g hg => (nx.lt g hg).1)
           have hz16 := hg16.size
           clear fm1 fm16 hM1 hR1 hF1 hB1 nx n1 n0 hg16 ho16 al
           go_wp2_with fail
           go_roundw
           case rel =>
            exact ⟨k + 1, fun m => if m = j0 then u' else U2 m, by omega, by go_num, by simp, fm17, Lib.hid (fun j hj => by simp only [show ¬ j = j0 by omega, if_false]; exact hUV2.out j hj), Lib.hid (fun j hj => by simp only [show ¬ j = j0 by omega, if_false]; exact hUU.out j hj), hM16, hR16, hF16, hB16, by omega⟩
           case measure => simp [intOf]; omega
          ·
           obtain rfl : k = 70 := by omega
           rw [show ((70 : Nat) : Int) = 70 from rfl]
           have hdk : decide ((70 : Int) < 70) = false := by decide
           have fm2 := fm.congr (U' := U2) (A' := A2) (X' := growF (fun j => 5000 + (j : Int)) 70 (j0 + 1) 0) (fun _ _ => rfl) (fun j _ => growF_next _ _ j0 j) (fun _ _ => rfl)
           have al := (Below.refl wr.heap.size wr).alloc (Nat.le_refl _) (.cells #[.slice av lv cv] 27)
           have as1 : (wr.alloc (.cells #[.slice av lv cv] 27)).heap.size = wr.heap.size + 1 := by simp
           have fm3 := fm2.keep al
           have hM3 := hM.keep al
           have hR3 := hR.keep al
           have hF3 := hF.below al
           have hB3 := hB2.trans (al.mono (Nat.le_trans HBW.out (Nat.le_trans hwS hSw)))
           have hBS : w.heap.size ≤ wr.heap.size + 1 := by have := HBW.out; omega
           clear fm fm2 hM hR hF hB2 hkl
           go_wp2_with (at_builtin; refine wpList_append_newV _ rfl _ _ 24 rfl S 27 24 Tryd.underlying24 infoN13 _ us rfl hM3 _ 1 (.slice av lv cv) ⟨_, _, _, rfl⟩ rfl (cell_new1 _ _ _ _) (by rw [lus.out]; omega) (by rw [lus.out]; omega) (by rw [as1]; omega) ?_)
           intro mo' w17 hM17 hg17 ho17
           go_simp
           have hMl : ∀ g, (Value.slice amo j0 cmo).ownBlock = some g → S ≤ g := fun g hg => (hM3.lt g hg).1
           have fm17 := fm3.grown hg17 (fun j hj g hg e => by
            have h1 := ((fm3.ext j hj).old g hg).1
            have h2 := hMl g e.symm
            omega) (fun j hj g hg => hM3.aside' (fm3.ext j hj).nx (by decide) g hg)
           have hR17 := hR3.kept hg17 (.inr fun e => by
            have h2 := hMl gl (e.symm.trans rfl)
            have h3 := HLS.out gl rfl
            omega)
           have hF17 := hF3.grown hg17 (fun g hg => .inl (Nat.le_trans hwS (hMl g hg)))
           have hB17 := hB3.grown hg17 (by rw [as1]; exact hBS) (fun g hg => Nat.le_trans HBW.out (Nat.le_trans hwS (hMl g hg)))
           have hz17 := hg17.size
           have el : us ++ [Value.slice av lv cv] = (List.range (j0 + 1)).map U2 := by
            rw [range_push (V := U) (V' := U2) (v := .slice av lv cv) hUU.out HVV.out, ← HUS.out]
           rw [el] at hM17
           clear fm3 hM3 hR3 hF3 hB3 hg17 al
           go_wp2_with fail
           go_roundw
           case rel => exact ⟨j0 + 1, U2, by omega, by go_num, fm17, Lib.hid (fun j hj => hUV2.out j (by omega)), hM17, hR17, hF17, hB17, by omega⟩
           case measure => simp [intOf]; omega
        ·
         have hd : decide ((j0 : Int) < 22) = false := decide_eq_false (by omega)
         obtain rfl : j0 = 22 := by omega
         rw [show ((22 : Nat) : Int) = 22 from rfl]
         clear hd
         have hd : decide ((22 : Int) < 22) = false := by decide
         obtain ⟨w18, rfl⟩ : ∃ x, x = wr := ⟨_, rfl⟩
         have FM := Lib.hid fm
         have ROWL : Hid (∀ i, i < 22 → ∃ g, ((some ⟨gl, 0, none⟩) : Option Addr) = some ⟨g, 0, none⟩ ∧ w18.cell? ⟨g, i, none⟩ = some (V i)) := Lib.hid fun i hi => hR.place hi
         obtain ⟨gm, rfl, _⟩ := hM.place (show 0 < 22 by omega)
         have ROWM : Hid (∀ i, i < 22 → w18.cell? ⟨gm, i, none⟩ = some (U i)) := Lib.hid fun i hi => by
          obtain ⟨_, e, c_⟩ := hM.place hi
          cases e
          exact c_
         have FF := Lib.hid hF
         have BB := Lib.hid hB2
         clear fm hM hR hUV hF hB2 hlt hi
         go_wp2_with fail
         go_loopw [25] (fun t wr => ∃ i : Nat, i ≤ 22 ∧ t = .int .i64 (i : Int) ∧ Dr w18 wr) (fun t _ => 22 - (intOf t).toNat)
         case atStart => exact ⟨0, by omega, rfl, .refl _⟩
         case round =>
          obtain ⟨i, hi, rfl, nd, rfl⟩ := hrel
          clear hd
          by_cases hlt : i < 22
          ·
           have hd : decide ((i : Int) < 22) = true := decide_eq_true (by omega)
           as_aux_lemma =>
           have hi10 : (i : Int) < 22 := by omega
           obtain ⟨ai, ci, hVi, sV, -⟩ := (FM.out.ext i hlt).sa
           obtain ⟨au, cu, hUi, sU, -⟩ := (FM.out.ext i hlt).nx.at_own
           obtain ⟨li, hli⟩ : ∃ z, z = (A i).length := ⟨_, rfl⟩
           have eA2 : A2 i = List.replicate li (1000 + (i : Int)) := by rw [HA2.out, hli]
           have eX : growF (fun j => 5000 + (j : Int)) 70 22 0 i = List.replicate 70 (5000 + (i : Int)) := by unfold growF; rw [if_pos hlt]
           have lib : li ≤ 8 := by have := lA2.out i hlt; rw [eA2, List.length_replicate] at this; exact this
           rw [eA2, eX, List.length_append, List.length_replicate, List.length_replicate] at hUi
           rw [eA2, eX] at sU
           rw [eA2] at sV
           rw [eA2, List.length_replicate] at hVi
           obtain ⟨gl, e_, cL⟩ := ROWL.out i hlt
           cases e_
           have cM := ROWM.out i hlt
           rw [hVi] at cL
           rw [hUi] at cM
           have SV := Lib.hid sV
           have SU := Lib.hid sU
           clear hVi hUi hli eA2 eX sV sU
           go_wp2_with fail
           go_loopw [26] (fun t wr => ∃ q : Nat, q ≤ li + 70 ∧ t = .int .i64 (q : Int) ∧ Dr w18 wr) (fun t _ => li + 70 - (intOf t).toNat)
           case atStart => exact ⟨0, by omega, rfl, nd, rfl⟩
           case round =>
            obtain ⟨q, hq, rfl, nd3, rfl⟩ := hrel
            by_cases hql : q < li + 70
            ·
             have hdq : decide ((q : Int) < ((li + 70 : Nat) : Int)) = true := decide_eq_true (by omega)
             obtain ⟨bu, ou, rfl, hcu⟩ := SU.out.cells (by rw [List.length_append, List.length_replicate, List.length_replicate]; omega)
             have cU := hcu q (by rw [List.length_append, List.length_replicate, List.length_replicate]; omega)
             by_cases hlo : q < li
             ·
              obtain ⟨bv, ov, rfl, hcv⟩ := SV.out.cells (by rw [List.length_replicate]; omega)
              have cV := hcv q (by rw [List.length_replicate]; omega)
              rw [grown_lo hlo] at cU
              rw [rep_nth hlo] at cV
              have hkz : (q : Int) < (li : Int) := by omega
              have hd2 : decide ((q : Int) < (li : Int)) = true := decide_eq_true hkz
              have hd3 : decide ((li : Int) ≤ (q : Int)) = false := decide_eq_false (by omega)
              have hd4 : decide (li ≤ q) = false := decide_eq_false (by omega)
              have hn1 : ¬ li ≤ q := by omega
              have hn2 : ¬ (li : Int) ≤ (q : Int) := by omega
              have hg1 : ((q : Int) ≥ (li : Int)) = False := eq_false (by omega)
              clear hcu hcv
              go_wp2_with fail
              go_quiet (fail)
              go_wp2_with fail
              go_roundw
              case rel => exact ⟨q + 1, by omega, by go_num, (by repeat (first | exact Dr.refl _ | apply Dr.drewN))⟩
              case measure => simp [intOf]; omega
             ·
              rw [grown_hi (by omega) (by omega)] at cU
              have hkz : ¬ (q : Int) < (li : Int) := by omega
              have hd2 : decide ((q : Int) < (li : Int)) = false := decide_eq_false hkz
              have hd3 : decide ((li : Int) ≤ (q : Int)) = true := decide_eq_true (by omega)
              clear hcu
              go_wp2_with fail
              go_quiet (fail)
              go_wp2_with fail
              go_roundw
              case rel => exact ⟨q + 1, by omega, by go_num, (by repeat (first | exact Dr.refl _ | apply Dr.drewN))⟩
              case measure => simp [intOf]; omega
            ·
             obtain rfl : q = li + 70 := by omega
             have hdq : decide (((li + 70 : Nat) : Int) < ((li + 70 : Nat) : Int)) = false := by simp
             go_wp2_with fail
             go_roundw
             case rel => exact ⟨i + 1, by omega, by go_num, (by repeat (first | exact Dr.refl _ | apply Dr.drewN))⟩
             case measure => simp [intOf]; omega
          ·
           have hd : decide ((i : Int) < 22) = false := decide_eq_false (by omega)
           obtain rfl : i = 22 := by omega
           rw [show ((22 : Nat) : Int) = 22 from rfl]
           clear hd
           have hd : decide ((22 : Int) < 22) = false := by decide
           have hwx := below_drewN (Below.refl w18.heap.size w18) nd
           have hB := ((HB5.out.trans (HB6.out.mono HB5.out.size)).trans BB.out).trans (hwx.mono (Nat.le_trans HBW.out BB.out.size))
           have hW := (HW6.out.fr FF.out (fun j hj g hg => ((LL.out.fam.new j hj).lt g hg).2)).keep hwx
           have hT := ((HT5.out.keep HB6.out).frT (LL.out.keep HB6.out).fam FF.out (by decide) (by decide)).keep hwx
           obtain ⟨w19, hw_⟩ : ∃ x, x = w18.drewN nd := ⟨_, rfl⟩
           rw [← hw_] at hB hW hT ⊢
           clear hw_ hwx FF BB HB5 HB6 HW6 HT5 LL FM ROWL ROWM
           have NW : Hid (∀ j, j < 11 → NumL (AW j) (qOf rd PA PB PC j)) := Lib.hid fun j hj => by
            rw [hA.out j hj]
            have h := hN.out j (by omega)
            rwa [Nat.mod_eq_of_lt hj] at h
           have hh := heldApart_c w.heap.size gT ct_ VT AT w19 hT (fun j hj => by rw [hE.out j hj, HC.out, encB_len]; exact Nat.le_refl _) (by rw [hE.out 0 (by omega), hE.out 1 (by omega)]) hB.size
           go_wp2_with fail
           refine hh.mono ?_; rintro e_ w20 ⟨rfl, fr_, hb_⟩
           replace hW := hW.frT hT.fam fr_ (by decide) (by decide)
           replace hB := hB.trans hb_
           clear hh fr_ hb_ hT
           go_wp2_with fail
           refine (dA _ (s0.below hB) (tP.below hB) (tD.below hB) (tI.below hB)).mono ?_; rintro e_ w21 ⟨ax247, ay247, px247, py247, zx247, zy247, cc247, rfl, tt, hb⟩
           have c247x := NewA.can tt.1 tt.2.2.1
           have c247y := NewA.can tt.2.1 tt.2.2.2.1
           obtain ⟨nx247, hn_⟩ : ∃ n, n = zx247.length := ⟨_, rfl⟩
           rw [← hn_] at c247x ⊢
           clear hn_
           obtain ⟨ny247, hn_⟩ : ∃ n, n = zy247.length := ⟨_, rfl⟩
           rw [← hn_] at c247y ⊢
           clear hn_
           replace hB := hB.trans (hb.mono hB.size)
           replace hW := hW.keep hb
           clear hb tt
           go_wp2_with (refine wpList_alloc_agg rfl 29 rfl [(.slice none 0 0), (.slice none 0 0), (.bool false)] 3 (by kernel_rfl) ?_)
           intro w22 hk_ hbA_
           obtain ⟨g27, hg_⟩ : ∃ g, g = w21.heap.size := ⟨_, rfl⟩
           rw [← hg_] at hk_ ⊢
           have HGE_ : Hid (w21.heap.size ≤ g27) := Lib.hid (by rw [hg_]; exact Nat.le_refl _)
           clear hg_
           go_wp2_with (refine wpList_store_agg rfl 29 _ _ rfl g27 29 [(.slice none 0 0), (.slice none 0 0), (.bool false)] [(.slice ax247 nx247 px247), (.slice ay247 ny247 py247), (.bool false)] rfl rfl hk_ size_pt (by intro v_ hv_; simp only [List.mem_cons, List.not_mem_nil, or_false] at hv_; rcases hv_ with rfl | rfl | rfl <;> first | rfl | exact c247x.one_cell | exact c247y.one_cell) rfl ?_)
           intro w23 hn_ hgr_
           have hk27 := hn_
           have hb := hbA_.grown hgr_ hbA_.size (by intro k_ hk_; cases hk_; exact HGE_.out)
           clear hn_ hgr_ hk_ hbA_ HGE_
           replace hB := hB.trans (hb.mono hB.size)
           replace hW := hW.keep hb
           replace c247x := c247x.below hb
           replace c247y := c247y.below hb
           clear hb
           go_wp2_with fail
           refine (Base_c w23 (tB.below hB)).mono ?_; rintro e_ w24 ⟨v_, rfl, hr_, hb⟩
           obtain ⟨gx251, gy251, rfl, tt⟩ := hr_.two
           have c251x := NewA.can tt.1 tt.2.2.1
           have c251y := NewA.can tt.2.1 tt.2.2.2.1
           replace hB := hB.trans (hb.mono hB.size)
           replace hW := hW.keep hb
           replace c247x := c247x.below hb
           replace c247y := c247y.below hb
           replace hk27 := hk27.keep hb
           clear hb tt
           go_wp2_with fail
           refine (Base_c w24 (tB.below hB)).mono ?_; rintro e_ w25 ⟨v_, rfl, hr_, hb⟩
           obtain ⟨gx252, gy252, rfl, tt⟩ := hr_.two
           have c252x := NewA.can tt.1 tt.2.2.1
           have c252y := NewA.can tt.2.1 tt.2.2.2.1
           replace hB := hB.trans (hb.mono hB.size)
           replace hW := hW.keep hb
           replace c247x := c247x.below hb
           replace c247y := c247y.below hb
           replace hk27 := hk27.keep hb
           replace c251x := c251x.below hb
           replace c251y := c251y.below hb
           clear hb tt
           go_wp2_with fail
           refine (aA _ _ _ ⟨_, _, rfl, c251x.num, c251y.num⟩ ⟨_, _, rfl, c252x.num, c252y.num⟩ (tP.below hB) (tD.below hB)).mono ?_; rintro e_ w26 ⟨ax253, ay253, px253, py253, zx253, zy253, cc253, rfl, tt, hb⟩
           have c253x := NewA.can tt.1 tt.2.2.1
           have c253y := NewA.can tt.2.1 tt.2.2.2.1
           obtain ⟨nx253, hn_⟩ : ∃ n, n = zx253.length := ⟨_, rfl⟩
           rw [← hn_] at c253x ⊢
           clear hn_
           obtain ⟨ny253, hn_⟩ : ∃ n, n = zy253.length := ⟨_, rfl⟩
           rw [← hn_] at c253y ⊢
           clear hn_
           replace hB := hB.trans (hb.mono hB.size)
           replace hW := hW.keep hb
           replace c247x := c247x.below hb
           replace c247y := c247y.below hb
           replace hk27 := hk27.keep hb
           replace c251x := c251x.below hb
           replace c251y := c251y.below hb
           replace c252x := c252x.below hb
           replace c252y := c252y.below hb
           clear hb tt
           go_wp2_with (refine wpList_alloc_agg rfl 29 rfl [(.slice none 0 0), (.slice none 0 0), (.bool false)] 3 (by kernel_rfl) ?_)
           intro w27 hk_ hbA_
           obtain ⟨g29, hg_⟩ : ∃ g, g = w26.heap.size := ⟨_, rfl⟩
           rw [← hg_] at hk_ ⊢
           have HGE_ : Hid (w26.heap.size ≤ g29) := Lib.hid (by rw [hg_]; exact Nat.le_refl _)
           clear hg_
           go_wp2_with (refine wpList_store_agg rfl 29 _ _ rfl g29 29 [(.slice none 0 0), (.slice none 0 0), (.bool false)] [(.slice ax253 nx253 px253), (.slice ay253 ny253 py253), (.bool false)] rfl rfl hk_ size_pt (by intro v_ hv_; simp only [List.mem_cons, List.not_mem_nil, or_false] at hv_; rcases hv_ with rfl | rfl | rfl <;> first | rfl | exact c253x.one_cell | exact c253y.one_cell) rfl ?_)
           intro w28 hn_ hgr_
           have hk29 := hn_
           have hb := hbA_.grown hgr_ hbA_.size (by intro k_ hk_; cases hk_; exact HGE_.out)
           clear hn_ hgr_ hk_ hbA_ HGE_
           replace hB := hB.trans (hb.mono hB.size)
           replace hW := hW.keep hb
           replace c247x := c247x.below hb
           replace c247y := c247y.below hb
           replace hk27 := hk27.keep hb
           replace c251x := c251x.below hb
           replace c251y := c251y.below hb
           replace c252x := c252x.below hb
           replace c252y := c252y.below hb
           replace c253x := c253x.below hb
           replace c253y := c253y.below hb
           clear hb
           obtain ⟨bw0, zw0, dw0, kw0, nw0⟩ := was_at hW (show 0 < 11 by omega) (show NumL _ (q0 rd) from NW.out 0 (by omega))
           obtain ⟨bw1, zw1, dw1, kw1, nw1⟩ := was_at hW (show 1 < 11 by omega) (show NumL _ (q1 rd) from NW.out 1 (by omega))
           obtain ⟨bw4, zw4, dw4, kw4, nw4⟩ := was_at hW (show 4 < 11 by omega) (show NumL _ (PA.1.val) from NW.out 4 (by omega))
           obtain ⟨bw5, zw5, dw5, kw5, nw5⟩ := was_at hW (show 5 < 11 by omega) (show NumL _ (PA.2.val) from NW.out 5 (by omega))
           as_aux_lemma =>
           go_wp2_with fail
           refine wp_region_held_drew (S := fun W_ => Rw W_ g27 29 [(.slice ax247 nx247 px247), (.slice ay247 ny247 py247), (.bool false)] ∧ Rw W_ g29 29 [(.slice ax253 nx253 px253), (.slice ay253 ny253 py253), (.bool false)] ∧ CellAt W_ gW 0 (.slice bw0 zw0 dw0) ∧ CellAt W_ gW 1 (.slice bw1 zw1 dw1) ∧ CellAt W_ gW 4 (.slice bw4 zw4 dw4) ∧ CellAt W_ gW 5 (.slice bw5 zw5 dw5)) (by kernel_rfl) (⟨hk27, hk29, kw0, kw1, kw4, kw5⟩) (fun hS => ?_)
           have hb := below_drewN (Below.refl w28.heap.size w28) 1
           obtain ⟨w29, hw_⟩ : ∃ x, x = World.drew w28 := ⟨_, rfl⟩
           rw [show World.drewN w28 1 = w29 from hw_.symm] at hb
           rw [← hw_] at hS ⊢
           clear hw_
           replace hB := hB.trans (hb.mono hB.size)
           replace hW := hW.keep hb
           replace c247x := c247x.below hb
           replace c247y := c247y.below hb
           replace hk27 := hk27.keep hb
           replace c251x := c251x.below hb
           replace c251y := c251y.below hb
           replace c252x := c252x.below hb
           replace c252y := c252y.below hb
           replace c253x := c253x.below hb
           replace c253y := c253y.below hb
           replace hk29 := hk29.keep hb
           replace nw0 := nw0.below hb
           replace nw1 := nw1.below hb
           replace nw4 := nw4.below hb
           replace nw5 := nw5.below hb
           replace kw0 := kw0.below hb
           replace kw1 := kw1.below hb
           replace kw4 := kw4.below hb
           replace kw5 := kw5.below hb
           clear hb
           refine wpAnyH_take (i := 0) (v := ?_) rfl (by kernel_rfl) (by kernel_rfl) (by kernel_rfl) (fun _ _ _ h => h) (Or.inl ⟨by rfl, ?_⟩) hS ?_
           rotate_left
           · intro w _; go_simp; try with_reducible rfl
           simp only [List.getElem_toArray, List.getElem_cons_zero, List.getElem_cons_succ, Act.put, List.setIfInBounds_toArray, List.set_cons_zero, List.set_cons_succ]
           refine wpAnyH_take (i := 1) (v := ?_) rfl (by kernel_rfl) (by kernel_rfl) (by kernel_rfl) (fun _ _ _ h => h) (Or.inl ⟨by rfl, ?_⟩) hS ?_
           rotate_left
           · intro W_ hW_; have c_ := Rw.cell (hW_.1) 0 rfl; go_simp; try with_reducible rfl
           simp only [List.getElem_toArray, List.getElem_cons_zero, List.getElem_cons_succ, Act.put, List.setIfInBounds_toArray, List.set_cons_zero, List.set_cons_succ]
           refine wpAnyH_take (i := 2) (v := ?_) rfl (by kernel_rfl) (by kernel_rfl) (by kernel_rfl) (fun _ _ _ h => h) (Or.inl ⟨by rfl, ?_⟩) hS ?_
           rotate_left
           · intro w _; go_simp; try with_reducible rfl
           simp only [List.getElem_toArray, List.getElem_cons_zero, List.getElem_cons_succ, Act.put, List.setIfInBounds_toArray, List.set_cons_zero, List.set_cons_succ]
           refine wpAnyH_take (i := 3) (v := ?_) rfl (by kernel_rfl) (by kernel_rfl) (by kernel_rfl) (fun _ _ _ h => h) (Or.inl ⟨by rfl, ?_⟩) hS ?_
           rotate_left
           · intro w _; go_simp; try with_reducible rfl
           simp only [List.getElem_toArray, List.getElem_cons_zero, List.getElem_cons_succ, Act.put, List.setIfInBounds_toArray, List.set_cons_zero, List.set_cons_succ]
           refine wpAnyH_take (i := 4) (v := ?_) rfl (by kernel_rfl) (by kernel_rfl) (by kernel_rfl) (fun _ _ _ h => h) (Or.inl ⟨by rfl, ?_⟩) hS ?_
           rotate_left
           · intro W_ hW_; have c_ : World.cell? W_ _ = some _ := (hW_.2.2.1); go_simp; try with_reducible rfl
           simp only [List.getElem_toArray, List.getElem_cons_zero, List.getElem_cons_succ, Act.put, List.setIfInBounds_toArray, List.set_cons_zero, List.set_cons_succ]
           have h_ := sameNat_can c247x nw0
           rw [show decide (q0 rd = q0 rd) = true from decide_eq_true rfl] at h_
           refine wpAnyH_ready (rs := [5]) (by kernel_rfl) (by simp) ?_
           refine AllReadyH.cons rfl (fun K hK => ?_) AllReadyH.nil
           rw [if_pos (by rfl)]
           simp only [List.getElem_toArray, List.getElem_cons_zero, List.getElem_cons_succ]
           go_simp
           refine (h_).mono ?_; rintro e_ w30 ⟨rfl, hd_⟩
           dsimp only
           have hb := hd_.b
           replace hB := hB.trans (hb.mono hB.size)
           replace hW := hW.keep hb
           replace c247x := c247x.below hb
           replace c247y := c247y.below hb
           replace hk27 := hk27.keep hb
           replace c251x := c251x.below hb
           replace c251y := c251y.below hb
           replace c252x := c252x.below hb
           replace c252y := c252y.below hb
           replace c253x := c253x.below hb
           replace c253y := c253y.below hb
           replace hk29 := hk29.keep hb
           replace nw0 := nw0.below hb
           replace nw1 := nw1.below hb
           replace nw4 := nw4.below hb
           replace nw5 := nw5.below hb
           replace kw0 := kw0.below hb
           replace kw1 := kw1.below hb
           replace kw4 := kw4.below hb
           replace kw5 := kw5.below hb
           clear hb hd_ h_
           refine hK.out _ _ ⟨hk27, hk29, kw0, kw1, kw4, kw5⟩ (fun hS => ?_)
           refine wpAnyH_take (i := 6) (v := ?_) rfl (by kernel_rfl) (by kernel_rfl) (by kernel_rfl) (fun _ _ _ h => h) (Or.inl ⟨by rfl, ?_⟩) hS ?_
           rotate_left
           · intro w _; go_simp; try with_reducible rfl
           simp only [List.getElem_toArray, List.getElem_cons_zero, List.getElem_cons_succ, Act.put, List.setIfInBounds_toArray, List.set_cons_zero, List.set_cons_succ]
           refine wpAnyH_take (i := 7) (v := ?_) rfl (by kernel_rfl) (by kernel_rfl) (by kernel_rfl) (fun _ _ _ h => h) (Or.inl ⟨by rfl, ?_⟩) hS ?_
           rotate_left
           · intro w _; go_simp; try with_reducible rfl
           simp only [List.getElem_toArray, List.getElem_cons_zero, List.getElem_cons_succ, Act.put, List.setIfInBounds_toArray, List.set_cons_zero, List.set_cons_succ]
           refine wpAnyH_take (i := 8) (v := ?_) rfl (by kernel_rfl) (by kernel_rfl) (by kernel_rfl) (fun _ _ _ h => h) (Or.inl ⟨by rfl, ?_⟩) hS ?_
           rotate_left
           · intro w _; go_simp; try with_reducible rfl
           simp only [List.getElem_toArray, List.getElem_cons_zero, List.getElem_cons_succ, Act.put, List.setIfInBounds_toArray, List.set_cons_zero, List.set_cons_succ]
           refine wpAnyH_take (i := 9) (v := ?_) rfl (by kernel_rfl) (by kernel_rfl) (by kernel_rfl) (fun _ _ _ h => h) (Or.inl ⟨by rfl, ?_⟩) hS ?_
           rotate_left
           · intro W_ hW_; have c_ := Rw.cell (hW_.1) 1 rfl; go_simp; try with_reducible rfl
           simp only [List.getElem_toArray, List.getElem_cons_zero, List.getElem_cons_succ, Act.put, List.setIfInBounds_toArray, List.set_cons_zero, List.set_cons_succ]
           refine wpAnyH_take (i := 10) (v := ?_) rfl (by kernel_rfl) (by kernel_rfl) (by kernel_rfl) (fun _ _ _ h => h) (Or.inl ⟨by rfl, ?_⟩) hS ?_
           rotate_left
           · intro w _; go_simp; try with_reducible rfl
           simp only [List.getElem_toArray, List.getElem_cons_zero, List.getElem_cons_succ, Act.put, List.setIfInBounds_toArray, List.set_cons_zero, List.set_cons_succ]
           refine wpAnyH_take (i := 11) (v := ?_) rfl (by kernel_rfl) (by kernel_rfl) (by kernel_rfl) (fun _ _ _ h => h) (Or.inl ⟨by rfl, ?_⟩) hS ?_
           rotate_left
           · intro w _; go_simp; try with_reducible rfl
           simp only [List.getElem_toArray, List.getElem_cons_zero, List.getElem_cons_succ, Act.put, List.setIfInBounds_toArray, List.set_cons_zero, List.set_cons_succ]
           refine wpAnyH_take (i := 12) (v := ?_) rfl (by kernel_rfl) (by kernel_rfl) (by kernel_rfl) (fun _ _ _ h => h) (Or.inl ⟨by rfl, ?_⟩) hS ?_
           rotate_left
           · intro W_ hW_; have c_ : World.cell? W_ _ = some _ := (hW_.2.2.2.1); go_simp; try with_reducible rfl
           simp only [List.getElem_toArray, List.getElem_cons_zero, List.getElem_cons_succ, Act.put, List.setIfInBounds_toArray, List.set_cons_zero, List.set_cons_succ]
           have h_ := sameNat_can c247y nw1
           rw [show decide (q1 rd = q1 rd) = true from decide_eq_true rfl] at h_
           refine wpAnyH_ready (rs := [13]) (by kernel_rfl) (by simp) ?_
           refine AllReadyH.cons rfl (fun K hK => ?_) AllReadyH.nil
           rw [if_pos (by rfl)]
           simp only [List.getElem_toArray, List.getElem_cons_zero, List.getElem_cons_succ]
           go_simp
           refine (h_).mono ?_; rintro e_ w31 ⟨rfl, hd_⟩
           dsimp only
           have hb := hd_.b
           replace hB := hB.trans (hb.mono hB.size)
           replace hW := hW.keep hb
           replace c247x := c247x.below hb
           replace c247y := c247y.below hb
           replace hk27 := hk27.keep hb
           replace c251x := c251x.below hb
           replace c251y := c251y.below hb
           replace c252x := c252x.below hb
           replace c252y := c252y.below hb
           replace c253x := c253x.below hb
           replace c253y := c253y.below hb
           replace hk29 := hk29.keep hb
           replace nw0 := nw0.below hb
           replace nw1 := nw1.below hb
           replace nw4 := nw4.below hb
           replace nw5 := nw5.below hb
           replace kw0 := kw0.below hb
           replace kw1 := kw1.below hb
           replace kw4 := kw4.below hb
           replace kw5 := kw5.below hb
           clear hb hd_ h_
           refine hK.out _ _ ⟨hk27, hk29, kw0, kw1, kw4, kw5⟩ (fun hS => ?_)
           refine wpAnyH_take (i := 14) (v := ?_) rfl (by kernel_rfl) (by kernel_rfl) (by kernel_rfl) (fun _ _ _ h => h) (Or.inl ⟨by rfl, ?_⟩) hS ?_
           rotate_left
           · intro w _; go_simp; try with_reducible rfl
           simp only [List.getElem_toArray, List.getElem_cons_zero, List.getElem_cons_succ, Act.put, List.setIfInBounds_toArray, List.set_cons_zero, List.set_cons_succ]
           refine wpAnyH_take (i := 15) (v := ?_) rfl (by kernel_rfl) (by kernel_rfl) (by kernel_rfl) (fun _ _ _ h => h) (Or.inl ⟨by rfl, ?_⟩) hS ?_
           rotate_left
           · intro w _; go_simp; try with_reducible rfl
           simp only [List.getElem_toArray, List.getElem_cons_zero, List.getElem_cons_succ, Act.put, List.setIfInBounds_toArray, List.set_cons_zero, List.set_cons_succ]
           refine wpAnyH_take (i := 16) (v := ?_) rfl (by kernel_rfl) (by kernel_rfl) (by kernel_rfl) (fun _ _ _ h => h) (Or.inl ⟨by rfl, ?_⟩) hS ?_
           rotate_left
           · intro w _; go_simp; try with_reducible rfl
           simp only [List.getElem_toArray, List.getElem_cons_zero, List.getElem_cons_succ, Act.put, List.setIfInBounds_toArray, List.set_cons_zero, List.set_cons_succ]
           refine wpAnyH_take (i := 17) (v := ?_) rfl (by kernel_rfl) (by kernel_rfl) (by kernel_rfl) (fun _ _ _ h => h) (Or.inl ⟨by rfl, ?_⟩) hS ?_
           rotate_left
           · intro w _; go_simp; try with_reducible rfl
           simp only [List.getElem_toArray, List.getElem_cons_zero, List.getElem_cons_succ, Act.put, List.setIfInBounds_toArray, List.set_cons_zero, List.set_cons_succ]
           refine wpAnyH_take (i := 18) (v := ?_) rfl (by kernel_rfl) (by kernel_rfl) (by kernel_rfl) (fun _ _ _ h => h) (Or.inl ⟨by rfl, ?_⟩) hS ?_
           rotate_left
           · intro W_ hW_; have c_ := Rw.cell (hW_.2.1) 0 rfl; go_simp; try with_reducible rfl
           simp only [List.getElem_toArray, List.getElem_cons_zero, List.getElem_cons_succ, Act.put, List.setIfInBounds_toArray, List.set_cons_zero, List.set_cons_succ]
           refine wpAnyH_take (i := 19) (v := ?_) rfl (by kernel_rfl) (by kernel_rfl) (by kernel_rfl) (fun _ _ _ h => h) (Or.inl ⟨by rfl, ?_⟩) hS ?_
           rotate_left
           · intro w _; go_simp; try with_reducible rfl
           simp only [List.getElem_toArray, List.getElem_cons_zero, List.getElem_cons_succ, Act.put, List.setIfInBounds_toArray, List.set_cons_zero, List.set_cons_succ]
           refine wpAnyH_take (i := 20) (v := ?_) rfl (by kernel_rfl) (by kernel_rfl) (by kernel_rfl) (fun _ _ _ h => h) (Or.inl ⟨by rfl, ?_⟩) hS ?_
           rotate_left
           · intro w _; go_simp; try with_reducible rfl
           simp only [List.getElem_toArray, List.getElem_cons_zero, List.getElem_cons_succ, Act.put, List.setIfInBounds_toArray, List.set_cons_zero, List.set_cons_succ]
           refine wpAnyH_take (i := 21) (v := ?_) rfl (by kernel_rfl) (by kernel_rfl) (by kernel_rfl) (fun _ _ _ h => h) (Or.inl ⟨by rfl, ?_⟩) hS ?_
           rotate_left
           · intro W_ hW_; have c_ : World.cell? W_ _ = some _ := (hW_.2.2.2.2.1); go_simp; try with_reducible rfl
           simp only [List.getElem_toArray, List.getElem_cons_zero, List.getElem_cons_succ, Act.put, List.setIfInBounds_toArray, List.set_cons_zero, List.set_cons_succ]
           have h_ := sameNat_can c253x nw4
           rw [show decide (PA.1.val = PA.1.val) = true from decide_eq_true rfl] at h_
           refine wpAnyH_ready (rs := [22]) (by kernel_rfl) (by simp) ?_
           refine AllReadyH.cons rfl (fun K hK => ?_) AllReadyH.nil
           rw [if_pos (by rfl)]
           simp only [List.getElem_toArray, List.getElem_cons_zero, List.getElem_cons_succ]
           go_simp
           refine (h_).mono ?_; rintro e_ w32 ⟨rfl, hd_⟩
           dsimp only
           have hb := hd_.b
           replace hB := hB.trans (hb.mono hB.size)
           replace hW := hW.keep hb
           replace c247x := c247x.below hb
           replace c247y := c247y.below hb
           replace hk27 := hk27.keep hb
           replace c251x := c251x.below hb
           replace c251y := c251y.below hb
           replace c252x := c252x.below hb
           replace c252y := c252y.below hb
           replace c253x := c253x.below hb
           replace c253y := c253y.below hb
           replace hk29 := hk29.keep hb
           replace nw0 := nw0.below hb
           replace nw1 := nw1.below hb
           replace nw4 := nw4.below hb
           replace nw5 := nw5.below hb
           replace kw0 := kw0.below hb
           replace kw1 := kw1.below hb
           replace kw4 := kw4.below hb
           replace kw5 := kw5.below hb
           clear hb hd_ h_
           refine hK.out _ _ ⟨hk27, hk29, kw0, kw1, kw4, kw5⟩ (fun hS => ?_)
           refine wpAnyH_take (i := 23) (v := ?_) rfl (by kernel_rfl) (by kernel_rfl) (by kernel_rfl) (fun _ _ _ h => h) (Or.inl ⟨by rfl, ?_⟩) hS ?_
           rotate_left
           · intro w _; go_simp; try with_reducible rfl
           simp only [List.getElem_toArray, List.getElem_cons_zero, List.getElem_cons_succ, Act.put, List.setIfInBounds_toArray, List.set_cons_zero, List.set_cons_succ]
           refine wpAnyH_take (i := 24) (v := ?_) rfl (by kernel_rfl) (by kernel_rfl) (by kernel_rfl) (fun _ _ _ h => h) (Or.inl ⟨by rfl, ?_⟩) hS ?_
           rotate_left
           · intro w _; go_simp; try with_reducible rfl
           simp only [List.getElem_toArray, List.getElem_cons_zero, List.getElem_cons_succ, Act.put, List.setIfInBounds_toArray, List.set_cons_zero, List.set_cons_succ]
           refine wpAnyH_take (i := 25) (v := ?_) rfl (by kernel_rfl) (by kernel_rfl) (by kernel_rfl) (fun _ _ _ h => h) (Or.inl ⟨by rfl, ?_⟩) hS ?_
           rotate_left
           · intro w _; go_simp; try with_reducible rfl
           simp only [List.getElem_toArray, List.getElem_cons_zero, List.getElem_cons_succ, Act.put, List.setIfInBounds_toArray, List.set_cons_zero, List.set_cons_succ]
           refine wpAnyH_take (i := 26) (v := ?_) rfl (by kernel_rfl) (by kernel_rfl) (by kernel_rfl) (fun _ _ _ h => h) (Or.inl ⟨by rfl, ?_⟩) hS ?_
           rotate_left
           · intro w _; go_simp; try with_reducible rfl
           simp only [List.getElem_toArray, List.getElem_cons_zero, List.getElem_cons_succ, Act.put, List.setIfInBounds_toArray, List.set_cons_zero, List.set_cons_succ]
           refine wpAnyH_take (i := 27) (v := ?_) rfl (by kernel_rfl) (by kernel_rfl) (by kernel_rfl) (fun _ _ _ h => h) (Or.inl ⟨by rfl, ?_⟩) hS ?_
           rotate_left
           · intro W_ hW_; have c_ := Rw.cell (hW_.2.1) 1 rfl; go_simp; try with_reducible rfl
           simp only [List.getElem_toArray, List.getElem_cons_zero, List.getElem_cons_succ, Act.put, List.setIfInBounds_toArray, List.set_cons_zero, List.set_cons_succ]
           refine wpAnyH_take (i := 28) (v := ?_) rfl (by kernel_rfl) (by kernel_rfl) (by kernel_rfl) (fun _ _ _ h => h) (Or.inl ⟨by rfl, ?_⟩) hS ?_
           rotate_left
           · intro w _; go_simp; try with_reducible rfl
           simp only [List.getElem_toArray, List.getElem_cons_zero, List.getElem_cons_succ, Act.put, List.setIfInBounds_toArray, List.set_cons_zero, List.set_cons_succ]
           refine wpAnyH_take (i := 29) (v := ?_) rfl (by kernel_rfl) (by kernel_rfl) (by kernel_rfl) (fun _ _ _ h => h) (Or.inl ⟨by rfl, ?_⟩) hS ?_
           rotate_left
           · intro w _; go_simp; try with_reducible rfl
           simp only [List.getElem_toArray, List.getElem_cons_zero, List.getElem_cons_succ, Act.put, List.setIfInBounds_toArray, List.set_cons_zero, List.set_cons_succ]
           refine wpAnyH_take (i := 30) (v := ?_) rfl (by kernel_rfl) (by kernel_rfl) (by kernel_rfl) (fun _ _ _ h => h) (Or.inl ⟨by rfl, ?_⟩) hS ?_
           rotate_left
           · intro W_ hW_; have c_ : World.cell? W_ _ = some _ := (hW_.2.2.2.2.2); go_simp; try with_reducible rfl
           simp only [List.getElem_toArray, List.getElem_cons_zero, List.getElem_cons_succ, Act.put, List.setIfInBounds_toArray, List.set_cons_zero, List.set_cons_succ]
           have h_ := sameNat_can c253y nw5
           rw [show decide (PA.2.val = PA.2.val) = true from decide_eq_true rfl] at h_
           refine wpAnyH_ready (rs := [31]) (by kernel_rfl) (by simp) ?_
           refine AllReadyH.cons rfl (fun K hK => ?_) AllReadyH.nil
           rw [if_pos (by rfl)]
           simp only [List.getElem_toArray, List.getElem_cons_zero, List.getElem_cons_succ]
           go_simp
           refine (h_).mono ?_; rintro e_ w33 ⟨rfl, hd_⟩
           dsimp only
           have hb := hd_.b
           replace hB := hB.trans (hb.mono hB.size)
           replace hW := hW.keep hb
           replace c247x := c247x.below hb
           replace c247y := c247y.below hb
           replace hk27 := hk27.keep hb
           replace c251x := c251x.below hb
           replace c251y := c251y.below hb
           replace c252x := c252x.below hb
           replace c252y := c252y.below hb
           replace c253x := c253x.below hb
           replace c253y := c253y.below hb
           replace hk29 := hk29.keep hb
           replace nw0 := nw0.below hb
           replace nw1 := nw1.below hb
           replace nw4 := nw4.below hb
           replace nw5 := nw5.below hb
           replace kw0 := kw0.below hb
           replace kw1 := kw1.below hb
           replace kw4 := kw4.below hb
           replace kw5 := kw5.below hb
           clear hb hd_ h_
           refine hK.out _ _ ⟨hk27, hk29, kw0, kw1, kw4, kw5⟩ (fun hS => ?_)
           refine wpAnyH_take (i := 32) (v := ?_) rfl (by kernel_rfl) (by kernel_rfl) (by kernel_rfl) (fun _ _ _ h => h) (Or.inl ⟨by rfl, ?_⟩) hS ?_
           rotate_left
           · intro w _; go_simp; try with_reducible rfl
           simp only [List.getElem_toArray, List.getElem_cons_zero, List.getElem_cons_succ, Act.put, List.setIfInBounds_toArray, List.set_cons_zero, List.set_cons_succ]
           refine wpAnyH_take (i := 33) (v := ?_) rfl (by kernel_rfl) (by kernel_rfl) (by kernel_rfl) (fun _ _ _ h => h) (Or.inl ⟨by rfl, ?_⟩) hS ?_
           rotate_left
           · intro w _; go_simp; try with_reducible rfl
           simp only [List.getElem_toArray, List.getElem_cons_zero, List.getElem_cons_succ, Act.put, List.setIfInBounds_toArray, List.set_cons_zero, List.set_cons_succ]
           refine wpAnyH_done (by kernel_rfl) ?_ _
           clear hS
           clear kw0
           clear kw1
           clear kw4
           clear kw5
           clear nw0
           clear nw1
           clear nw4
           clear nw5
           clear hk27
           clear hk29
           clear c247x
           clear c247y
           clear c251x
           clear c251y
           clear c252x
           clear c252y
           clear c253x
           clear c253y
           clear hW
           go_wp2_with fail
           refine (Base_c w33 (tB.below hB)).mono ?_; rintro e_ w34 ⟨v_, rfl, hr_, hb⟩
           obtain ⟨gx291, gy291, rfl, tt⟩ := hr_.two
           have c291x := NewA.can tt.1 tt.2.2.1
           have c291y := NewA.can tt.2.1 tt.2.2.2.1
           replace hB := hB.trans (hb.mono hB.size)
           clear hb tt
           go_wp2_with fail
           refine (enc_any (C := C) HC.out ⟨_, _, rfl, c291x.num, c291y.num⟩ eB_on (tP.below hB) (tD.below hB)).mono ?_; rintro e_ w35 ⟨eE2, qE2, rfl, hnE, hb⟩
           replace hB := hB.trans (hb.mono hB.size)
           replace c291x := c291x.below hb
           replace c291y := c291y.below hb
           clear hb
           clear c291x
           clear c291y
           go_wp2_with fail
           refine (Order_c w35 (tL.below hB)).mono ?_; rintro e_ w36 ⟨gO, rfl, hgq_, hkq_, hb⟩
           have c296 := CanAt.rw8 hkq_ lim8_L
           replace hB := hB.trans (hb.mono hB.size)
           replace hnE := hnE.keep hb
           clear hb hgq_ hkq_
           go_wp2_with fail
           refine (Base_c w36 (tB.below hB)).mono ?_; rintro e_ w37 ⟨v_, rfl, hr_, hb⟩
           obtain ⟨gx297, gy297, rfl, tt⟩ := hr_.two
           have c297x := NewA.can tt.1 tt.2.2.1
           have c297y := NewA.can tt.2.1 tt.2.2.2.1
           replace hB := hB.trans (hb.mono hB.size)
           replace hnE := hnE.keep hb
           replace c296 := c296.below hb
           clear hb tt
           go_wp2_with fail
           refine (aL _ _ _ c296.num ⟨_, _, rfl, c297x.num, c297y.num⟩ (tP.below hB) (tD.below hB)).mono ?_; rintro e_ w38 ⟨v_, rfl, hr_, hb⟩
           obtain ⟨ax298, nx298, px298, ay298, ny298, py298, rfl, c298x, c298y⟩ := hr_.pts
           clear hr_
           replace hB := hB.trans (hb.mono hB.size)
           replace hnE := hnE.keep hb
           replace c296 := c296.below hb
           replace c297x := c297x.below hb
           replace c297y := c297y.below hb
           clear hb
           go_wp2_with (refine wpList_alloc_agg rfl 29 rfl [(.slice none 0 0), (.slice none 0 0), (.bool false)] 3 (by kernel_rfl) ?_)
           intro w39 hk_ hbA_
           obtain ⟨g33, hg_⟩ : ∃ g, g = w38.heap.size := ⟨_, rfl⟩
           rw [← hg_] at hk_ ⊢
           have HGE_ : Hid (w38.heap.size ≤ g33) := Lib.hid (by rw [hg_]; exact Nat.le_refl _)
           clear hg_
           go_wp2_with (refine wpList_store_agg rfl 29 _ _ rfl g33 29 [(.slice none 0 0), (.slice none 0 0), (.bool false)] [(.slice ax298 nx298 px298), (.slice ay298 ny298 py298), (.bool false)] rfl rfl hk_ size_pt (by intro v_ hv_; simp only [List.mem_cons, List.not_mem_nil, or_false] at hv_; rcases hv_ with rfl | rfl | rfl <;> first | rfl | exact c298x.one_cell | exact c298y.one_cell) rfl ?_)
           intro w40 hn_ hgr_
           have hk33 := hn_
           have hb := hbA_.grown hgr_ hbA_.size (by intro k_ hk_; cases hk_; exact HGE_.out)
           clear hn_ hgr_ hk_ hbA_ HGE_
           replace hB := hB.trans (hb.mono hB.size)
           replace hnE := hnE.keep hb
           replace c296 := c296.below hb
           replace c297x := c297x.below hb
           replace c297y := c297y.below hb
           replace c298x := c298x.below hb
           replace c298y := c298y.below hb
           clear hb
           obtain ⟨gE, cE, hE_, -, hpE⟩ := hnE.pre (by rw [HC.out, encB_len]; omega)
           simp only [Value.slice.injEq] at hE_
           obtain ⟨rfl, -, rfl⟩ := hE_
           have lC : Hid (C.length = 32) := Lib.hid (by rw [HC.out, encB_len])
           have kw0 := hpE.cell 0 (by rw [lC.out]; omega)
           have kw1 := hpE.cell 1 (by rw [lC.out]; omega)
           have kw31 := hpE.cell 31 (by rw [lC.out]; omega)
           rw [show nth C 0 = 88 by rw [HC.out]; exact encB_eB.1] at kw0
           rw [show nth C 1 = 102 by rw [HC.out]; exact encB_eB.2.1] at kw1
           rw [show nth C 31 = 102 by rw [HC.out]; exact encB_eB.2.2] at kw31
           replace kw0 : CellAt _ gE 0 (.int .u8 88) := kw0
           replace kw1 : CellAt _ gE 1 (.int .u8 102) := kw1
           replace kw31 : CellAt _ gE 31 (.int .u8 102) := kw31
           clear hpE hnE
           as_aux_lemma =>
           go_wp2_with fail
           refine wp_region_held_drew (S := fun W_ => Rw W_ g33 29 [(.slice ax298 nx298 px298), (.slice ay298 ny298 py298), (.bool false)] ∧ CellAt W_ gE 0 (.int .u8 88) ∧ CellAt W_ gE 1 (.int .u8 102) ∧ CellAt W_ gE 31 (.int .u8 102)) (by kernel_rfl) (⟨hk33, kw0, kw1, kw31⟩) (fun hS => ?_)
           have hb := below_drewN (Below.refl w40.heap.size w40) 1
           obtain ⟨w41, hw_⟩ : ∃ x, x = World.drew w40 := ⟨_, rfl⟩
           rw [show World.drewN w40 1 = w41 from hw_.symm] at hb
           rw [← hw_] at hS ⊢
           clear hw_
           replace hB := hB.trans (hb.mono hB.size)
           replace c296 := c296.below hb
           replace c297x := c297x.below hb
           replace c297y := c297y.below hb
           replace c298x := c298x.below hb
           replace c298y := c298y.below hb
           replace hk33 := hk33.keep hb
           replace kw0 := kw0.below hb
           replace kw1 := kw1.below hb
           replace kw31 := kw31.below hb
           clear hb
           refine wpAnyH_take (i := 0) (v := ?_) rfl (by kernel_rfl) (by kernel_rfl) (by kernel_rfl) (fun _ _ _ h => h) (Or.inl ⟨by rfl, ?_⟩) hS ?_
           rotate_left
           · intro w _; go_simp; try with_reducible rfl
           simp only [List.getElem_toArray, List.getElem_cons_zero, List.getElem_cons_succ, Act.put, List.setIfInBounds_toArray, List.set_cons_zero, List.set_cons_succ]
           refine wpAnyH_take (i := 1) (v := ?_) rfl (by kernel_rfl) (by kernel_rfl) (by kernel_rfl) (fun _ _ _ h => h) (Or.inl ⟨by rfl, ?_⟩) hS ?_
           rotate_left
           · intro w _; go_simp; try with_reducible rfl
           simp only [List.getElem_toArray, List.getElem_cons_zero, List.getElem_cons_succ, Act.put, List.setIfInBounds_toArray, List.set_cons_zero, List.set_cons_succ]
           refine wpAnyH_take (i := 2) (v := ?_) rfl (by kernel_rfl) (by kernel_rfl) (by kernel_rfl) (fun _ _ _ h => h) (Or.inl ⟨by rfl, ?_⟩) hS ?_
           rotate_left
           · intro w _; go_simp; try with_reducible rfl
           simp only [List.getElem_toArray, List.getElem_cons_zero, List.getElem_cons_succ, Act.put, List.setIfInBounds_toArray, List.set_cons_zero, List.set_cons_succ]
           refine wpAnyH_take (i := 3) (v := ?_) rfl (by kernel_rfl) (by kernel_rfl) (by kernel_rfl) (fun _ _ _ h => h) (Or.inl ⟨by rfl, ?_⟩) hS ?_
           rotate_left
           · intro w _; go_simp; try with_reducible rfl
           simp only [List.getElem_toArray, List.getElem_cons_zero, List.getElem_cons_succ, Act.put, List.setIfInBounds_toArray, List.set_cons_zero, List.set_cons_succ]
           refine wpAnyH_take (i := 4) (v := ?_) rfl (by kernel_rfl) (by kernel_rfl) (by kernel_rfl) (fun _ _ _ h => h) (Or.inl ⟨by rfl, ?_⟩) hS ?_
           rotate_left
           · intro w _; go_simp; try with_reducible rfl
           simp only [List.getElem_toArray, List.getElem_cons_zero, List.getElem_cons_succ, Act.put, List.setIfInBounds_toArray, List.set_cons_zero, List.set_cons_succ]
           refine wpAnyH_take (i := 5) (v := ?_) rfl (by kernel_rfl) (by kernel_rfl) (by kernel_rfl) (fun _ _ _ h => h) (Or.inl ⟨by rfl, ?_⟩) hS ?_
           rotate_left
           · intro w _; go_simp; try with_reducible rfl
           simp only [List.getElem_toArray, List.getElem_cons_zero, List.getElem_cons_succ, Act.put, List.setIfInBounds_toArray, List.set_cons_zero, List.set_cons_succ]
           refine wpAnyH_take (i := 6) (v := ?_) rfl (by kernel_rfl) (by kernel_rfl) (by kernel_rfl) (fun _ _ _ h => h) (Or.inl ⟨by rfl, ?_⟩) hS ?_
           rotate_left
           · intro w _; go_simp; try with_reducible rfl
           simp only [List.getElem_toArray, List.getElem_cons_zero, List.getElem_cons_succ, Act.put, List.setIfInBounds_toArray, List.set_cons_zero, List.set_cons_succ]
           refine wpAnyH_take (i := 7) (v := .agg #[(.slice ax298 nx298 px298), (.slice ay298 ny298 py298), (.bool false)]) rfl (by kernel_rfl) (by kernel_rfl) (by kernel_rfl) (fun _ _ _ h => h) (yieldsIf_load_mid (by rfl) 29 _ rfl g33 0 rfl [(.slice ax298 nx298 px298), (.slice ay298 ny298 py298), (.bool false)] _ (fun W_ hW_ => Rw.range (hW_.1) 0 _ fun j_ v_ hv_ => by rwa [Nat.zero_add]) Tryd.underlying29 rfl size_pt) hS ?_
           simp only [List.getElem_toArray, List.getElem_cons_zero, List.getElem_cons_succ, Act.put, List.setIfInBounds_toArray, List.set_cons_zero, List.set_cons_succ]
           refine wpAnyH_ready (rs := [8]) (by kernel_rfl) (by simp) ?_
           refine AllReadyH.cons rfl (fun K hK => ?_) AllReadyH.nil
           rw [if_pos (by rfl)]
           simp only [List.getElem_toArray, List.getElem_cons_zero, List.getElem_cons_succ]
           go_simp
           refine (zero_c w41).mono ?_; rintro e_ w42 ⟨v309, rfl, hp_, hb⟩
           dsimp only
           obtain ⟨z309x, z309y, rfl, c309x, c309y⟩ := hp_
           replace hB := hB.trans (hb.mono hB.size)
           replace c296 := c296.below hb
           replace c297x := c297x.below hb
           replace c297y := c297y.below hb
           replace c298x := c298x.below hb
           replace c298y := c298y.below hb
           replace hk33 := hk33.keep hb
           replace kw0 := kw0.below hb
           replace kw1 := kw1.below hb
           replace kw31 := kw31.below hb
           clear hb
           refine hK.out _ _ ⟨hk33, kw0, kw1, kw31⟩ (fun hS => ?_)
           have h_ := one_c ⟨_, _, rfl, c298x, c298y⟩ ⟨_, _, rfl, c309x, c309y⟩
           rw [show decide (eO.1.val = eO.1.val ∧ eO.2.val = eO.2.val) = true from decide_eq_true ⟨rfl, rfl⟩] at h_
           refine wpAnyH_ready (rs := [9]) (by kernel_rfl) (by simp) ?_
           refine AllReadyH.cons rfl (fun K hK => ?_) AllReadyH.nil
           rw [if_pos (by rfl)]
           simp only [List.getElem_toArray, List.getElem_cons_zero, List.getElem_cons_succ]
           go_simp
           refine (h_).mono ?_; rintro e_ w43 ⟨rfl, hb⟩
           dsimp only
           replace hB := hB.trans (hb.mono hB.size)
           replace c296 := c296.below hb
           replace c297x := c297x.below hb
           replace c297y := c297y.below hb
           replace c298x := c298x.below hb
           replace c298y := c298y.below hb
           replace hk33 := hk33.keep hb
           replace kw0 := kw0.below hb
           replace kw1 := kw1.below hb
           replace kw31 := kw31.below hb
           replace c309x := c309x.below hb
           replace c309y := c309y.below hb
           clear hb h_
           refine hK.out _ _ ⟨hk33, kw0, kw1, kw31⟩ (fun hS => ?_)
           refine wpAnyH_take (i := 10) (v := ?_) rfl (by kernel_rfl) (by kernel_rfl) (by kernel_rfl) (fun _ _ _ h => h) (Or.inl ⟨by rfl, ?_⟩) hS ?_
           rotate_left
           · intro w _; go_simp; try with_reducible rfl
           simp only [List.getElem_toArray, List.getElem_cons_zero, List.getElem_cons_succ, Act.put, List.setIfInBounds_toArray, List.set_cons_zero, List.set_cons_succ]
           refine wpAnyH_take (i := 11) (v := ?_) rfl (by kernel_rfl) (by kernel_rfl) (by kernel_rfl) (fun _ _ _ h => h) (Or.inl ⟨by rfl, ?_⟩) hS ?_
           rotate_left
           · intro w _; go_simp; try with_reducible rfl
           simp only [List.getElem_toArray, List.getElem_cons_zero, List.getElem_cons_succ, Act.put, List.setIfInBounds_toArray, List.set_cons_zero, List.set_cons_succ]
           refine wpAnyH_take (i := 12) (v := ?_) rfl (by kernel_rfl) (by kernel_rfl) (by kernel_rfl) (fun _ _ _ h => h) (Or.inl ⟨by rfl, ?_⟩) hS ?_
           rotate_left
           · intro w _; go_simp; try with_reducible rfl
           simp only [List.getElem_toArray, List.getElem_cons_zero, List.getElem_cons_succ, Act.put, List.setIfInBounds_toArray, List.set_cons_zero, List.set_cons_succ]
           refine wpAnyH_take (i := 13) (v := ?_) rfl (by kernel_rfl) (by kernel_rfl) (by kernel_rfl) (fun _ _ _ h => h) (Or.inl ⟨by rfl, ?_⟩) hS ?_
           rotate_left
           · intro w _; go_simp; try with_reducible rfl
           simp only [List.getElem_toArray, List.getElem_cons_zero, List.getElem_cons_succ, Act.put, List.setIfInBounds_toArray, List.set_cons_zero, List.set_cons_succ]
           refine wpAnyH_take (i := 14) (v := ?_) rfl (by kernel_rfl) (by kernel_rfl) (by kernel_rfl) (fun _ _ _ h => h) (Or.inl ⟨by rfl, ?_⟩) hS ?_
           rotate_left
           · intro w _; go_simp; try with_reducible rfl
           simp only [List.getElem_toArray, List.getElem_cons_zero, List.getElem_cons_succ, Act.put, List.setIfInBounds_toArray, List.set_cons_zero, List.set_cons_succ]
           refine wpAnyH_take (i := 15) (v := ?_) rfl (by kernel_rfl) (by kernel_rfl) (by kernel_rfl) (fun _ _ _ h => h) (Or.inl ⟨by rfl, ?_⟩) hS ?_
           rotate_left
           · intro w _; go_simp; try with_reducible rfl
           simp only [List.getElem_toArray, List.getElem_cons_zero, List.getElem_cons_succ, Act.put, List.setIfInBounds_toArray, List.set_cons_zero, List.set_cons_succ]
           refine wpAnyH_take (i := 16) (v := ?_) rfl (by kernel_rfl) (by kernel_rfl) (by kernel_rfl) (fun _ _ _ h => h) (Or.inl ⟨by rfl, ?_⟩) hS ?_
           rotate_left
           · intro w _; go_simp; try with_reducible rfl
           simp only [List.getElem_toArray, List.getElem_cons_zero, List.getElem_cons_succ, Act.put, List.setIfInBounds_toArray, List.set_cons_zero, List.set_cons_succ]
           refine wpAnyH_take (i := 17) (v := ?_) rfl (by kernel_rfl) (by kernel_rfl) (by kernel_rfl) (fun _ _ _ h => h) (Or.inl ⟨by rfl, ?_⟩) hS ?_
           rotate_left
           · intro w _; go_simp; try with_reducible rfl
           simp only [List.getElem_toArray, List.getElem_cons_zero, List.getElem_cons_succ, Act.put, List.setIfInBounds_toArray, List.set_cons_zero, List.set_cons_succ]
           refine wpAnyH_take (i := 18) (v := ?_) rfl (by kernel_rfl) (by kernel_rfl) (by kernel_rfl) (fun _ _ _ h => h) (Or.inl ⟨by rfl, ?_⟩) hS ?_
           rotate_left
           · intro w _; go_simp; try with_reducible rfl
           simp only [List.getElem_toArray, List.getElem_cons_zero, List.getElem_cons_succ, Act.put, List.setIfInBounds_toArray, List.set_cons_zero, List.set_cons_succ]
           refine wpAnyH_take (i := 19) (v := ?_) rfl (by kernel_rfl) (by kernel_rfl) (by kernel_rfl) (fun _ _ _ h => h) (Or.inl ⟨by rfl, ?_⟩) hS ?_
           rotate_left
           · intro W_ hW_; have c_ : World.cell? W_ _ = some _ := (hW_.2.1); go_simp; try with_reducible rfl
           simp only [List.getElem_toArray, List.getElem_cons_zero, List.getElem_cons_succ, Act.put, List.setIfInBounds_toArray, List.set_cons_zero, List.set_cons_succ]
           refine wpAnyH_take (i := 20) (v := ?_) rfl (by kernel_rfl) (by kernel_rfl) (by kernel_rfl) (fun _ _ _ h => h) (Or.inl ⟨by rfl, ?_⟩) hS ?_
           rotate_left
           · intro w _; go_simp; try with_reducible rfl
           simp only [List.getElem_toArray, List.getElem_cons_zero, List.getElem_cons_succ, Act.put, List.setIfInBounds_toArray, List.set_cons_zero, List.set_cons_succ]
           refine wpAnyH_take (i := 21) (v := ?_) rfl (by kernel_rfl) (by kernel_rfl) (by kernel_rfl) (fun _ _ _ h => h) (Or.inl ⟨by rfl, ?_⟩) hS ?_
           rotate_left
           · intro w _; go_simp; try with_reducible rfl
           simp only [List.getElem_toArray, List.getElem_cons_zero, List.getElem_cons_succ, Act.put, List.setIfInBounds_toArray, List.set_cons_zero, List.set_cons_succ]
           refine wpAnyH_take (i := 22) (v := ?_) rfl (by kernel_rfl) (by kernel_rfl) (by kernel_rfl) (fun _ _ _ h => h) (Or.inl ⟨by rfl, ?_⟩) hS ?_
           rotate_left
           · intro w _; go_simp; try with_reducible rfl
           simp only [List.getElem_toArray, List.getElem_cons_zero, List.getElem_cons_succ, Act.put, List.setIfInBounds_toArray, List.set_cons_zero, List.set_cons_succ]
           refine wpAnyH_take (i := 23) (v := ?_) rfl (by kernel_rfl) (by kernel_rfl) (by kernel_rfl) (fun _ _ _ h => h) (Or.inl ⟨by rfl, ?_⟩) hS ?_
           rotate_left
           · intro w _; go_simp; try with_reducible rfl
           simp only [List.getElem_toArray, List.getElem_cons_zero, List.getElem_cons_succ, Act.put, List.setIfInBounds_toArray, List.set_cons_zero, List.set_cons_succ]
           refine wpAnyH_take (i := 24) (v := ?_) rfl (by kernel_rfl) (by kernel_rfl) (by kernel_rfl) (fun _ _ _ h => h) (Or.inl ⟨by rfl, ?_⟩) hS ?_
           rotate_left
           · intro w _; go_simp; try with_reducible rfl
           simp only [List.getElem_toArray, List.getElem_cons_zero, List.getElem_cons_succ, Act.put, List.setIfInBounds_toArray, List.set_cons_zero, List.set_cons_succ]
           refine wpAnyH_take (i := 25) (v := ?_) rfl (by kernel_rfl) (by kernel_rfl) (by kernel_rfl) (fun _ _ _ h => h) (Or.inl ⟨by rfl, ?_⟩) hS ?_
           rotate_left
           · intro W_ hW_; have c_ : World.cell? W_ _ = some _ := (hW_.2.2.1); go_simp; try with_reducible rfl
           simp only [List.getElem_toArray, List.getElem_cons_zero, List.getElem_cons_succ, Act.put, List.setIfInBounds_toArray, List.set_cons_zero, List.set_cons_succ]
           refine wpAnyH_take (i := 26) (v := ?_) rfl (by kernel_rfl) (by kernel_rfl) (by kernel_rfl) (fun _ _ _ h => h) (Or.inl ⟨by rfl, ?_⟩) hS ?_
           rotate_left
           · intro w _; go_simp; try with_reducible rfl
           simp only [List.getElem_toArray, List.getElem_cons_zero, List.getElem_cons_succ, Act.put, List.setIfInBounds_toArray, List.set_cons_zero, List.set_cons_succ]
           refine wpAnyH_take (i := 27) (v := ?_) rfl (by kernel_rfl) (by kernel_rfl) (by kernel_rfl) (fun _ _ _ h => h) (Or.inl ⟨by rfl, ?_⟩) hS ?_
           rotate_left
           · intro w _; go_simp; try with_reducible rfl
           simp only [List.getElem_toArray, List.getElem_cons_zero, List.getElem_cons_succ, Act.put, List.setIfInBounds_toArray, List.set_cons_zero, List.set_cons_succ]
           refine wpAnyH_take (i := 28) (v := ?_) rfl (by kernel_rfl) (by kernel_rfl) (by kernel_rfl) (fun _ _ _ h => h) (Or.inl ⟨by rfl, ?_⟩) hS ?_
           rotate_left
           · intro w _; go_simp; try with_reducible rfl
           simp only [List.getElem_toArray, List.getElem_cons_zero, List.getElem_cons_succ, Act.put, List.setIfInBounds_toArray, List.set_cons_zero, List.set_cons_succ]
           refine wpAnyH_take (i := 29) (v := ?_) rfl (by kernel_rfl) (by kernel_rfl) (by kernel_rfl) (fun _ _ _ h => h) (Or.inl ⟨by rfl, ?_⟩) hS ?_
           rotate_left
           · intro w _; go_simp; try with_reducible rfl
           simp only [List.getElem_toArray, List.getElem_cons_zero, List.getElem_cons_succ, Act.put, List.setIfInBounds_toArray, List.set_cons_zero, List.set_cons_succ]
           refine wpAnyH_take (i := 30) (v := ?_) rfl (by kernel_rfl) (by kernel_rfl) (by kernel_rfl) (fun _ _ _ h => h) (Or.inl ⟨by rfl, ?_⟩) hS ?_
           rotate_left
           · intro w _; go_simp; try with_reducible rfl
           simp only [List.getElem_toArray, List.getElem_cons_zero, List.getElem_cons_succ, Act.put, List.setIfInBounds_toArray, List.set_cons_zero, List.set_cons_succ]
           refine wpAnyH_take (i := 31) (v := ?_) rfl (by kernel_rfl) (by kernel_rfl) (by kernel_rfl) (fun _ _ _ h => h) (Or.inl ⟨by rfl, ?_⟩) hS ?_
           rotate_left
           · intro W_ hW_; have c_ : World.cell? W_ _ = some _ := (hW_.2.2.2); go_simp; try with_reducible rfl
           simp only [List.getElem_toArray, List.getElem_cons_zero, List.getElem_cons_succ, Act.put, List.setIfInBounds_toArray, List.set_cons_zero, List.set_cons_succ]
           refine wpAnyH_take (i := 32) (v := ?_) rfl (by kernel_rfl) (by kernel_rfl) (by kernel_rfl) (fun _ _ _ h => h) (Or.inl ⟨by rfl, ?_⟩) hS ?_
           rotate_left
           · intro w _; go_simp; try with_reducible rfl
           simp only [List.getElem_toArray, List.getElem_cons_zero, List.getElem_cons_succ, Act.put, List.setIfInBounds_toArray, List.set_cons_zero, List.set_cons_succ]
           refine wpAnyH_take (i := 33) (v := ?_) rfl (by kernel_rfl) (by kernel_rfl) (by kernel_rfl) (fun _ _ _ h => h) (Or.inl ⟨by rfl, ?_⟩) hS ?_
           rotate_left
           · intro w _; go_simp; try with_reducible rfl
           simp only [List.getElem_toArray, List.getElem_cons_zero, List.getElem_cons_succ, Act.put, List.setIfInBounds_toArray, List.set_cons_zero, List.set_cons_succ]
           refine wpAnyH_take (i := 34) (v := ?_) rfl (by kernel_rfl) (by kernel_rfl) (by kernel_rfl) (fun _ _ _ h => h) (Or.inl ⟨by rfl, ?_⟩) hS ?_
           rotate_left
           · intro w _; go_simp; try with_reducible rfl
           simp only [List.getElem_toArray, List.getElem_cons_zero, List.getElem_cons_succ, Act.put, List.setIfInBounds_toArray, List.set_cons_zero, List.set_cons_succ]
           refine wpAnyH_ready (rs := [35]) (by kernel_rfl) (by simp) ?_
           refine AllReadyH.cons rfl (fun K hK => ?_) AllReadyH.nil
           rw [if_pos (by rfl)]
           simp only [List.getElem_toArray, List.getElem_cons_zero, List.getElem_cons_succ]
           go_simp
           refine (awake_c w43 (tP.below hB) (tD.below hB) (tI.below hB) (tL.below hB) (tB.below hB) (ht.below hB)).mono ?_; rintro e_ w44 ⟨rfl, hb⟩
           dsimp only
           replace hB := hB.trans (hb.mono hB.size)
           replace c296 := c296.below hb
           replace c297x := c297x.below hb
           replace c297y := c297y.below hb
           replace c298x := c298x.below hb
           replace c298y := c298y.below hb
           replace hk33 := hk33.keep hb
           replace kw0 := kw0.below hb
           replace kw1 := kw1.below hb
           replace kw31 := kw31.below hb
           replace c309x := c309x.below hb
           replace c309y := c309y.below hb
           clear hb
           refine hK.out _ _ ⟨hk33, kw0, kw1, kw31⟩ (fun hS => ?_)
           refine wpAnyH_take (i := 36) (v := ?_) rfl (by kernel_rfl) (by kernel_rfl) (by kernel_rfl) (fun _ _ _ h => h) (Or.inl ⟨by rfl, ?_⟩) hS ?_
           rotate_left
           · intro w _; go_simp; try with_reducible rfl
           simp only [List.getElem_toArray, List.getElem_cons_zero, List.getElem_cons_succ, Act.put, List.setIfInBounds_toArray, List.set_cons_zero, List.set_cons_succ]
           refine wpAnyH_take (i := 37) (v := ?_) rfl (by kernel_rfl) (by kernel_rfl) (by kernel_rfl) (fun _ _ _ h => h) (Or.inl ⟨by rfl, ?_⟩) hS ?_
           rotate_left
           · intro w _; go_simp; try with_reducible rfl
           simp only [List.getElem_toArray, List.getElem_cons_zero, List.getElem_cons_succ, Act.put, List.setIfInBounds_toArray, List.set_cons_zero, List.set_cons_succ]
           refine wpAnyH_done (by kernel_rfl) ?_ _
           clear hS
           clear kw0
           clear kw1
           clear kw31
           go_wp2_with fail
           go_ret
           exact ⟨rfl, hB⟩
end Go.Proofs.YtlolkighnnedfaaDoor
