import Derived.Test.YtlolkighnnedfaaDoorZ39
/- signetlaw13.EdJust by its contract. (Printed by gen_edjust.py.) -/
set_option linter.unusedVariables false
set_option linter.unusedSimpArgs false
namespace Go.Proofs.YtlolkighnnedfaaDoor
open Go.RowKit Go.Sg

set_option maxHeartbeats 4000000 in
set_option maxRecDepth 20000 in
theorem EdJust_c {a0 a1 a2 : Option Addr} {c0 c1 c2 : Nat} {x0 x1 x2 : List Int} {w : World} (s0 : Sl .u8 w a0 c0 x0) (s1 : Sl .u8 w a1 c1 x1) (s2 : Sl .u8 w a2 c2 x2) (u0 : U8 x0) (u1 : U8 x1) (u2 : U8 x2) (hz : x0.length + x1.length + x2.length ≤ 1048576) (tP : TabAt w 0 limbP) (tD : TabAt w 3 limbD) (tI : TabAt w 4 limbI) (tL : TabAt w 2 limbL) (tB : BaseT w 1) (ht : ShaTabs w) :
    Calls Tryd.prog 4 #[.slice a0 x0.length c0, .slice a1 x1.length c1, .slice a2 x2.length c2] w (fun e w' => e = .returned (.bool true) ∧ Below w.heap.size w w') := by
  have l0 : Hid (x0.length ≤ 1048576) := Lib.hid (by omega)
  have l1 : Hid (x1.length ≤ 1048576) := Lib.hid (by omega)
  have l2 : Hid (x2.length ≤ 1048576) := Lib.hid (by omega)
  clear hz
  obtain ⟨code, hcode⟩ : ∃ c, c = edCode x0 x1 x2 := ⟨_, rfl⟩
  have HC := Lib.hid hcode
  clear hcode
  go_enter Tryd.func4, Tryd.ntmps4
  have hB := Below.refl w.heap.size w
  go_wp2_with fail
  refine (awake_c w (tP.below hB) (tD.below hB) (tI.below hB) (tL.below hB) (tB.below hB) (ht.below hB)).mono ?_; rintro e_ w1 ⟨rfl, hb⟩
  replace hB := hB.trans (hb.mono hB.size)
  clear hb
  have h_ := Verify_c (s0.below hB) (s1.below hB) (s2.below hB) u0 u1 u2 (by have := l0.out; omega) (by have := l1.out; omega) (by have := l2.out; omega) (tP.below hB) (tD.below hB) (tI.below hB) (tL.below hB) (tB.below hB) (ht.below hB)
  rw [← HC.out] at h_
  go_wp2_with fail
  refine (h_).mono ?_; rintro e_ w2 ⟨rfl, hb⟩
  replace hB := hB.trans (hb.mono hB.size)
  clear hb h_
  cases hd : decB x0 with
  | none =>
    have h_ := Decode_c (s0.below hB) u0 (by have := l0.out; omega) (tP.below hB) (tD.below hB) (tI.below hB)
    rw [hd] at h_
    unfold DecPost NoPt noPt at h_
    go_wp2_with fail
    refine (h_).mono ?_; rintro e_ w3 ⟨rfl, hb⟩
    replace hB := hB.trans (hb.mono hB.size)
    clear hb h_
    go_wp2_with (refine wpList_alloc_agg rfl 29 rfl [(.slice none 0 0), (.slice none 0 0), (.bool false)] 3 (by kernel_rfl) ?_)
    intro w4 hk_ hbA_
    obtain ⟨g8, hg_⟩ : ∃ g, g = w3.heap.size := ⟨_, rfl⟩
    rw [← hg_] at hk_ ⊢
    have HGE_ : Hid (w3.heap.size ≤ g8) := Lib.hid (by rw [hg_]; exact Nat.le_refl _)
    clear hg_
    go_wp2_with (refine wpList_store_agg rfl 29 _ _ rfl g8 29 [(.slice none 0 0), (.slice none 0 0), (.bool false)] [(.slice none 0 0), (.slice none 0 0), (.bool false)] rfl rfl hk_ size_pt (by intro v_ hv_; simp only [List.mem_cons, List.not_mem_nil, or_false] at hv_; rcases hv_ with rfl | rfl | rfl <;> rfl) rfl ?_)
    intro w5 hn_ hgr_
    have hk8 := hn_
    have hb := hbA_.grown hgr_ hbA_.size (by intro k_ hk_; cases hk_; exact HGE_.out)
    clear hn_ hgr_ hk_ hbA_ HGE_
    replace hB := hB.trans (hb.mono hB.size)
    clear hb
    obtain rfl : code = 90 := by rw [HC.out]; exact code_none hd
    clear hd HC
    go_wp2_with fail
    go_ret
    exact ⟨by first | done | rfl | simp, hB⟩
  | some A =>
    have OA := Lib.hid (decB_on hd).2
    have h_ := Decode_c (s0.below hB) u0 (by have := l0.out; omega) (tP.below hB) (tD.below hB) (tI.below hB)
    rw [hd] at h_
    go_wp2_with fail
    refine (h_).mono ?_; rintro e_ w3 ⟨v27, rfl, hn, hb⟩
    obtain ⟨v27x, v27y, rfl, h1_, h2_, _⟩ := hn
    have c27x := h1_.fp
    have c27y := h2_.fp
    obtain ⟨av27x, nv27x, pv27x, rfl⟩ := c27x.sliced
    obtain ⟨av27y, nv27y, pv27y, rfl⟩ := c27y.sliced
    clear h1_ h2_
    replace hB := hB.trans (hb.mono hB.size)
    clear hb h_
    go_wp2_with (refine wpList_alloc_agg rfl 29 rfl [(.slice none 0 0), (.slice none 0 0), (.bool false)] 3 (by kernel_rfl) ?_)
    intro w4 hk_ hbA_
    obtain ⟨g8, hg_⟩ : ∃ g, g = w3.heap.size := ⟨_, rfl⟩
    rw [← hg_] at hk_ ⊢
    have HGE_ : Hid (w3.heap.size ≤ g8) := Lib.hid (by rw [hg_]; exact Nat.le_refl _)
    clear hg_
    go_wp2_with (refine wpList_store_agg rfl 29 _ _ rfl g8 29 [(.slice none 0 0), (.slice none 0 0), (.bool false)] [(.slice av27x nv27x pv27x), (.slice av27y nv27y pv27y), (.bool false)] rfl rfl hk_ size_pt (by intro v_ hv_; simp only [List.mem_cons, List.not_mem_nil, or_false] at hv_; rcases hv_ with rfl | rfl | rfl <;> first | rfl | exact c27x.one_cell | exact c27y.one_cell) rfl ?_)
    intro w5 hn_ hgr_
    have hk8 := hn_
    have hb := hbA_.grown hgr_ hbA_.size (by intro k_ hk_; cases hk_; exact HGE_.out)
    clear hn_ hgr_ hk_ hbA_ HGE_
    replace hB := hB.trans (hb.mono hB.size)
    replace c27x := c27x.below hb
    replace c27y := c27y.below hb
    clear hb
    by_cases h64 : x2.length = 64
    · skip
      have H64 := Lib.hid h64
      obtain ⟨adr, sdr, rdr⟩ := s2.from (P := Tryd.prog) (T := 22) (E := 5) Tryd.underlying22 size8 32 (by omega)
      have rto := fun W => run_to (P := Tryd.prog) W 22 5 Tryd.underlying22 size8 a2 x2.length c2 32 (by have := s2.le; omega) 32 rfl
      have std := s2.take 32
      rw [h64] at rdr rto ⊢
      rw [show ((32 : Nat) : Int) = 32 from rfl] at rdr
      rw [show (64 - 32 : Nat) = 32 from rfl] at rdr
      have hl1 : (x2.drop 32).length = 32 := by rw [List.length_drop, h64]
      have hl2 : (x2.take 32).length = 32 := by rw [List.length_take, h64]; rfl
      have ud : U8 (x2.drop 32) := u2.drop (by omega) 32
      have ut : U8 (x2.take 32) := u2.take (by omega) 32
      have LI := fun W (h : Below w.heap.size w W) => little13_c adr (c2 - 32) (x2.drop 32) W (sdr.below h) ud (by rw [hl1]; omega)
      rw [hl1] at LI
      obtain ⟨S, hS_⟩ : ∃ S, S = lnum (x2.drop 32) := ⟨_, rfl⟩
      rw [← hS_] at LI
      have slim : Lim 8 S := by
        have h1 := lnum_lt ud
        rw [hl1] at h1
        rw [hS_]
        exact ⟨Nat.lt_of_lt_of_le h1 (by decide +kernel)⟩
      have CH := fun W (h : Below w.heap.size w W) => challenge13_c (std.below h) (s0.below h) (s1.below h) ut u0 u1 (by rw [hl2]; have := l0.out; have := l1.out; omega) (tL.below h) (ht.below h)
      obtain ⟨K, hK_⟩ : ∃ K, K = chal (x2.take 32) x0 x1 := ⟨_, rfl⟩
      rw [hl2, ← hK_] at CH
      have KL : Hid (bl K ≤ 1024) := Lib.hid (bl_below (by rw [hK_]; exact chal_lt _ _ _))
      have SA := fun (l : List Int) (a : Option Addr) (c : Nat) W (h : Below w.heap.size w W) (hl : Sl .u8 W a c l) => same13_c a a2 c c2 l (x2.take 32) W hl (std.below h)
      rw [hl2] at SA
      have HL2 := Lib.hid hl2
      have HS := Lib.hid hS_
      have HK := Lib.hid hK_
      have HD := Lib.hid hd
      clear hl1 hl2 hS_ hK_ ud ut sdr std h64 hd
      by_cases hsl : S < eL
      · skip
        have HX := Lib.hid (cmpI_lt hsl)
        have HSL := Lib.hid hsl
        clear hsl
        go_wp2_with fail
        refine (LI _ hB).mono ?_; rintro e_ w6 ⟨v40, rfl, hn, hb⟩
        have c40 := hn.can slim (by omega)
        replace hB := hB.trans (hb.mono hB.size)
        replace c27x := c27x.below hb
        replace c27y := c27y.below hb
        replace hk8 := hk8.keep hb
        clear hb hn
        go_wp2_with fail
        refine (Order_c w6 (tL.below hB)).mono ?_; rintro e_ w7 ⟨g41_, rfl, _, hkq_, hb⟩
        have c41 := CanAt.rw8 hkq_ lim8_L
        replace hB := hB.trans (hb.mono hB.size)
        replace c27x := c27x.below hb
        replace c27y := c27y.below hb
        replace hk8 := hk8.keep hb
        replace c40 := c40.below hb
        clear hb hkq_
        have h_ := cmp_v c40.num c41.num
        rw [HX.out] at h_
        go_wp2_with fail
        refine (h_).mono ?_; rintro e_ w8 ⟨rfl, hd_⟩
        have hb := hd_.b
        replace hB := hB.trans (hb.mono hB.size)
        replace c27x := c27x.below hb
        replace c27y := c27y.below hb
        replace hk8 := hk8.keep hb
        replace c40 := c40.below hb
        replace c41 := c41.below hb
        clear hb hd_ h_
        clear c40
        clear c41
        go_wp2_with fail
        refine (CH _ hB).mono ?_; rintro e_ w9 ⟨v51, rfl, c51, hb⟩
        replace hB := hB.trans (hb.mono hB.size)
        replace c27x := c27x.below hb
        replace c27y := c27y.below hb
        replace hk8 := hk8.keep hb
        clear hb
        go_wp2_with fail
        refine (LI _ hB).mono ?_; rintro e_ w10 ⟨v55, rfl, hn, hb⟩
        have c55 := hn.can slim (by omega)
        replace hB := hB.trans (hb.mono hB.size)
        replace c27x := c27x.below hb
        replace c27y := c27y.below hb
        replace hk8 := hk8.keep hb
        replace c51 := c51.below hb
        clear hb hn
        go_wp2_with fail
        refine (Base_c w10 (tB.below hB)).mono ?_; rintro e_ w11 ⟨v56, rfl, hn, hb⟩
        obtain ⟨gb56x, gb56y, rfl, _, _, _, kbx_, kby_⟩ := hn
        have c56x : CanAt _ _ eB.1.val := CanAt.rw8 kbx_ lim8_X
        have c56y : CanAt _ _ eB.2.val := CanAt.rw8 kby_ lim8_Y
        clear kbx_ kby_
        replace hB := hB.trans (hb.mono hB.size)
        replace c27x := c27x.below hb
        replace c27y := c27y.below hb
        replace hk8 := hk8.keep hb
        replace c51 := c51.below hb
        replace c55 := c55.below hb
        clear hb
        have h_ := mul_ok (P := eB) c55.num ⟨_, _, rfl, c56x.num, c56y.num⟩ eB_on (bl_below HSL.out) (tP.below hB) (tD.below hB)
        go_wp2_with fail
        refine (h_).mono ?_; rintro e_ w12 ⟨v57, rfl, hn, hb⟩
        obtain ⟨v57x, v57y, rfl, h1_, h2_, _⟩ := hn
        have c57x := h1_.fp
        have c57y := h2_.fp
        obtain ⟨av57x, nv57x, pv57x, rfl⟩ := c57x.sliced
        obtain ⟨av57y, nv57y, pv57y, rfl⟩ := c57y.sliced
        clear h1_ h2_
        replace hB := hB.trans (hb.mono hB.size)
        replace c27x := c27x.below hb
        replace c27y := c27y.below hb
        replace hk8 := hk8.keep hb
        replace c51 := c51.below hb
        replace c55 := c55.below hb
        replace c56x := c56x.below hb
        replace c56y := c56y.below hb
        clear hb h_
        go_wp2_with (refine wpList_alloc_agg rfl 29 rfl [(.slice none 0 0), (.slice none 0 0), (.bool false)] 3 (by kernel_rfl) ?_)
        intro w13 hk_ hbA_
        obtain ⟨g11, hg_⟩ : ∃ g, g = w12.heap.size := ⟨_, rfl⟩
        rw [← hg_] at hk_ ⊢
        have HGE_ : Hid (w12.heap.size ≤ g11) := Lib.hid (by rw [hg_]; exact Nat.le_refl _)
        clear hg_
        go_wp2_with (refine wpList_store_agg rfl 29 _ _ rfl g11 29 [(.slice none 0 0), (.slice none 0 0), (.bool false)] [(.slice av57x nv57x pv57x), (.slice av57y nv57y pv57y), (.bool false)] rfl rfl hk_ size_pt (by intro v_ hv_; simp only [List.mem_cons, List.not_mem_nil, or_false] at hv_; rcases hv_ with rfl | rfl | rfl <;> first | rfl | exact c57x.one_cell | exact c57y.one_cell) rfl ?_)
        intro w14 hn_ hgr_
        have hk11 := hn_
        have hb := hbA_.grown hgr_ hbA_.size (by intro k_ hk_; cases hk_; exact HGE_.out)
        clear hn_ hgr_ hk_ hbA_ HGE_
        replace hB := hB.trans (hb.mono hB.size)
        replace c27x := c27x.below hb
        replace c27y := c27y.below hb
        replace hk8 := hk8.keep hb
        replace c51 := c51.below hb
        replace c55 := c55.below hb
        replace c56x := c56x.below hb
        replace c56y := c56y.below hb
        replace c57x := c57x.below hb
        replace c57y := c57y.below hb
        clear hb
        clear c55
        go_wp2_with (refine wpList_load_agg rfl 29 _ rfl g8 rfl _ [(.slice av27x nv27x pv27x), (.slice av27y nv27y pv27y), (.bool false)] _ hk8 Tryd.underlying29 rfl size_pt ?_)
        refine (opposite_c c27x c27y).mono ?_; rintro e_ w15 ⟨v63, rfl, hp_, hb⟩
        obtain ⟨z63x, z63y, rfl, c63x, c63y⟩ := hp_
        replace hB := hB.trans (hb.mono hB.size)
        replace c27x := c27x.below hb
        replace c27y := c27y.below hb
        replace hk8 := hk8.keep hb
        replace c51 := c51.below hb
        replace c56x := c56x.below hb
        replace c56y := c56y.below hb
        replace c57x := c57x.below hb
        replace c57y := c57y.below hb
        replace hk11 := hk11.keep hb
        clear hb
        have h_ := mul_ok (P := eNeg A) c51.num ⟨_, _, rfl, c63x.num, c63y.num⟩ (eNeg_on OA.out) KL.out (tP.below hB) (tD.below hB)
        go_wp2_with fail
        refine (h_).mono ?_; rintro e_ w16 ⟨v64, rfl, hn, hb⟩
        obtain ⟨v64x, v64y, rfl, h1_, h2_, _⟩ := hn
        have c64x := h1_.fp
        have c64y := h2_.fp
        obtain ⟨av64x, nv64x, pv64x, rfl⟩ := c64x.sliced
        obtain ⟨av64y, nv64y, pv64y, rfl⟩ := c64y.sliced
        clear h1_ h2_
        replace hB := hB.trans (hb.mono hB.size)
        replace c27x := c27x.below hb
        replace c27y := c27y.below hb
        replace hk8 := hk8.keep hb
        replace c51 := c51.below hb
        replace c56x := c56x.below hb
        replace c56y := c56y.below hb
        replace c57x := c57x.below hb
        replace c57y := c57y.below hb
        replace hk11 := hk11.keep hb
        replace c63x := c63x.below hb
        replace c63y := c63y.below hb
        clear hb h_
        go_wp2_with (refine wpList_alloc_agg rfl 29 rfl [(.slice none 0 0), (.slice none 0 0), (.bool false)] 3 (by kernel_rfl) ?_)
        intro w17 hk_ hbA_
        obtain ⟨g13, hg_⟩ : ∃ g, g = w16.heap.size := ⟨_, rfl⟩
        rw [← hg_] at hk_ ⊢
        have HGE_ : Hid (w16.heap.size ≤ g13) := Lib.hid (by rw [hg_]; exact Nat.le_refl _)
        clear hg_
        go_wp2_with (refine wpList_store_agg rfl 29 _ _ rfl g13 29 [(.slice none 0 0), (.slice none 0 0), (.bool false)] [(.slice av64x nv64x pv64x), (.slice av64y nv64y pv64y), (.bool false)] rfl rfl hk_ size_pt (by intro v_ hv_; simp only [List.mem_cons, List.not_mem_nil, or_false] at hv_; rcases hv_ with rfl | rfl | rfl <;> first | rfl | exact c64x.one_cell | exact c64y.one_cell) rfl ?_)
        intro w18 hn_ hgr_
        have hk13 := hn_
        have hb := hbA_.grown hgr_ hbA_.size (by intro k_ hk_; cases hk_; exact HGE_.out)
        clear hn_ hgr_ hk_ hbA_ HGE_
        replace hB := hB.trans (hb.mono hB.size)
        replace c27x := c27x.below hb
        replace c27y := c27y.below hb
        replace hk8 := hk8.keep hb
        replace c51 := c51.below hb
        replace c56x := c56x.below hb
        replace c56y := c56y.below hb
        replace c57x := c57x.below hb
        replace c57y := c57y.below hb
        replace hk11 := hk11.keep hb
        replace c63x := c63x.below hb
        replace c63y := c63y.below hb
        replace c64x := c64x.below hb
        replace c64y := c64y.below hb
        clear hb
        clear c51
        have h_ := add_ok ⟨_, _, rfl, c57x.num, c57y.num⟩ ⟨_, _, rfl, c64x.num, c64y.num⟩ (eMul_on eB_on S) (eMul_on (eNeg_on OA.out) K) (tP.below hB) (tD.below hB)
        go_wp2_with (first | refine wpList_load_agg rfl 29 _ rfl g11 rfl _ [(.slice av57x nv57x pv57x), (.slice av57y nv57y pv57y), (.bool false)] _ hk11 Tryd.underlying29 rfl size_pt ?_ | refine wpList_load_agg rfl 29 _ rfl g13 rfl _ [(.slice av64x nv64x pv64x), (.slice av64y nv64y pv64y), (.bool false)] _ hk13 Tryd.underlying29 rfl size_pt ?_)
        refine (h_).mono ?_; rintro e_ w19 ⟨v70, rfl, hn, hb⟩
        obtain ⟨v70x, v70y, rfl, h1_, h2_, _⟩ := hn
        have c70x := h1_.fp
        have c70y := h2_.fp
        obtain ⟨av70x, nv70x, pv70x, rfl⟩ := c70x.sliced
        obtain ⟨av70y, nv70y, pv70y, rfl⟩ := c70y.sliced
        clear h1_ h2_
        replace hB := hB.trans (hb.mono hB.size)
        replace c27x := c27x.below hb
        replace c27y := c27y.below hb
        replace hk8 := hk8.keep hb
        replace c56x := c56x.below hb
        replace c56y := c56y.below hb
        replace c57x := c57x.below hb
        replace c57y := c57y.below hb
        replace hk11 := hk11.keep hb
        replace c63x := c63x.below hb
        replace c63y := c63y.below hb
        replace c64x := c64x.below hb
        replace c64y := c64y.below hb
        replace hk13 := hk13.keep hb
        clear hb h_
        go_wp2_with (refine wpList_alloc_agg rfl 29 rfl [(.slice none 0 0), (.slice none 0 0), (.bool false)] 3 (by kernel_rfl) ?_)
        intro w20 hk_ hbA_
        obtain ⟨g15, hg_⟩ : ∃ g, g = w19.heap.size := ⟨_, rfl⟩
        rw [← hg_] at hk_ ⊢
        have HGE_ : Hid (w19.heap.size ≤ g15) := Lib.hid (by rw [hg_]; exact Nat.le_refl _)
        clear hg_
        go_wp2_with (refine wpList_store_agg rfl 29 _ _ rfl g15 29 [(.slice none 0 0), (.slice none 0 0), (.bool false)] [(.slice av70x nv70x pv70x), (.slice av70y nv70y pv70y), (.bool false)] rfl rfl hk_ size_pt (by intro v_ hv_; simp only [List.mem_cons, List.not_mem_nil, or_false] at hv_; rcases hv_ with rfl | rfl | rfl <;> first | rfl | exact c70x.one_cell | exact c70y.one_cell) rfl ?_)
        intro w21 hn_ hgr_
        have hk15 := hn_
        have hb := hbA_.grown hgr_ hbA_.size (by intro k_ hk_; cases hk_; exact HGE_.out)
        clear hn_ hgr_ hk_ hbA_ HGE_
        replace hB := hB.trans (hb.mono hB.size)
        replace c27x := c27x.below hb
        replace c27y := c27y.below hb
        replace hk8 := hk8.keep hb
        replace c56x := c56x.below hb
        replace c56y := c56y.below hb
        replace c57x := c57x.below hb
        replace c57y := c57y.below hb
        replace hk11 := hk11.keep hb
        replace c63x := c63x.below hb
        replace c63y := c63y.below hb
        replace c64x := c64x.below hb
        replace c64y := c64y.below hb
        replace hk13 := hk13.keep hb
        replace c70x := c70x.below hb
        replace c70y := c70y.below hb
        clear hb
        have h_ := enc_ok ⟨_, _, rfl, c70x.num, c70y.num⟩ (eAdd_on (eMul_on eB_on S) (eMul_on (eNeg_on OA.out) K)) (tP.below hB) (tD.below hB)
        unfold EncOk at h_
        obtain ⟨E, hE_⟩ : ∃ E, E = encB (eAdd (eMul S eB) (eMul K (eNeg A))) := ⟨_, rfl⟩
        rw [← hE_] at h_
        have HE := Lib.hid hE_
        clear hE_
        go_wp2_with (refine wpList_load_agg rfl 29 _ rfl g15 rfl _ [(.slice av70x nv70x pv70x), (.slice av70y nv70y pv70y), (.bool false)] _ hk15 Tryd.underlying29 rfl size_pt ?_)
        refine (h_).mono ?_; rintro e_ w22 ⟨v75, rfl, hn, hb⟩
        obtain ⟨eE, qE, rfl, sE⟩ := hn.sl
        clear hn
        replace hB := hB.trans (hb.mono hB.size)
        replace c27x := c27x.below hb
        replace c27y := c27y.below hb
        replace hk8 := hk8.keep hb
        replace c56x := c56x.below hb
        replace c56y := c56y.below hb
        replace c57x := c57x.below hb
        replace c57y := c57y.below hb
        replace hk11 := hk11.keep hb
        replace c63x := c63x.below hb
        replace c63y := c63y.below hb
        replace c64x := c64x.below hb
        replace c64y := c64y.below hb
        replace hk13 := hk13.keep hb
        replace c70x := c70x.below hb
        replace c70y := c70y.below hb
        replace hk15 := hk15.keep hb
        clear hb h_
        have hcode : Hid (code = if E = x2.take 32 then 0 else 91) := Lib.hid (by rw [HC.out, code_just HD.out H64.out (by rw [← HS.out]; exact HSL.out), HE.out, HS.out, HK.out])
        have h_ := on13_c (inf := false) c70x c70y
        rw [onB_of (eAdd_on (eMul_on eB_on S) (eMul_on (eNeg_on OA.out) K))] at h_
        have q0_ := hk15.cell 0 rfl
        have q1_ := hk15.cell 1 rfl
        have q2_ := hk15.cell 2 rfl
        go_wp2_with fail
        refine (h_).mono ?_; rintro e_ w23 ⟨rfl, hb⟩
        clear q0_ q1_ q2_
        replace hB := hB.trans (hb.mono hB.size)
        replace c27x := c27x.below hb
        replace c27y := c27y.below hb
        replace hk8 := hk8.keep hb
        replace c56x := c56x.below hb
        replace c56y := c56y.below hb
        replace c57x := c57x.below hb
        replace c57y := c57y.below hb
        replace hk11 := hk11.keep hb
        replace c63x := c63x.below hb
        replace c63y := c63y.below hb
        replace c64x := c64x.below hb
        replace c64y := c64y.below hb
        replace hk13 := hk13.keep hb
        replace c70x := c70x.below hb
        replace c70y := c70y.below hb
        replace hk15 := hk15.keep hb
        replace sE := sE.below hb
        clear hb h_
        by_cases heq : E = x2.take 32
        · skip
          obtain rfl : code = 0 := by rw [hcode.out, if_pos heq]
          have h_ := SA E eE qE _ hB sE
          rw [show decide (E = x2.take 32) = true from decide_eq_true heq] at h_
          clear heq hcode HC HE
          go_wp2_with fail
          refine h_.mono ?_; rintro e_ w24 ⟨rfl, hd_⟩
          have hb := hd_.b
          clear h_ hd_
          replace hB := hB.trans (hb.mono hB.size)
          replace c27x := c27x.below hb
          replace c27y := c27y.below hb
          replace hk8 := hk8.keep hb
          replace c56x := c56x.below hb
          replace c56y := c56y.below hb
          replace c57x := c57x.below hb
          replace c57y := c57y.below hb
          replace hk11 := hk11.keep hb
          replace c63x := c63x.below hb
          replace c63y := c63y.below hb
          replace c64x := c64x.below hb
          replace c64y := c64y.below hb
          replace hk13 := hk13.keep hb
          replace c70x := c70x.below hb
          replace c70y := c70y.below hb
          replace hk15 := hk15.keep hb
          replace sE := sE.below hb
          clear hb
          go_wp2_with fail
          go_ret
          exact ⟨by first | done | rfl | simp, hB⟩
        · skip
          obtain rfl : code = 91 := by rw [hcode.out, if_neg heq]
          have h_ := SA E eE qE _ hB sE
          rw [show decide (E = x2.take 32) = false from decide_eq_false heq] at h_
          clear heq hcode HC HE
          go_wp2_with fail
          refine h_.mono ?_; rintro e_ w24 ⟨rfl, hd_⟩
          have hb := hd_.b
          clear h_ hd_
          replace hB := hB.trans (hb.mono hB.size)
          replace c27x := c27x.below hb
          replace c27y := c27y.below hb
          replace hk8 := hk8.keep hb
          replace c56x := c56x.below hb
          replace c56y := c56y.below hb
          replace c57x := c57x.below hb
          replace c57y := c57y.below hb
          replace hk11 := hk11.keep hb
          replace c63x := c63x.below hb
          replace c63y := c63y.below hb
          replace c64x := c64x.below hb
          replace c64y := c64y.below hb
          replace hk13 := hk13.keep hb
          replace c70x := c70x.below hb
          replace c70y := c70y.below hb
          replace hk15 := hk15.keep hb
          replace sE := sE.below hb
          clear hb
          go_wp2_with fail
          go_ret
          exact ⟨by first | done | rfl | simp, hB⟩
      · skip
        obtain rfl : code = 91 := by rw [HC.out]; exact code_high HD.out (by rw [← HS.out]; exact hsl)
        obtain ⟨cj, hcj⟩ : ∃ c, c = cmpI S eL := ⟨_, rfl⟩
        have hdc : decide ((0 : Int) ≤ cj) = true := decide_eq_true (by rw [hcj]; exact cmpI_ge_ hsl)
        have HCJ := Lib.hid hcj
        clear hsl hcj
        go_wp2_with fail
        refine (LI _ hB).mono ?_; rintro e_ w6 ⟨v40, rfl, hn, hb⟩
        have c40 := hn.can slim (by omega)
        replace hB := hB.trans (hb.mono hB.size)
        replace c27x := c27x.below hb
        replace c27y := c27y.below hb
        replace hk8 := hk8.keep hb
        clear hb hn
        go_wp2_with fail
        refine (Order_c w6 (tL.below hB)).mono ?_; rintro e_ w7 ⟨g41_, rfl, _, hkq_, hb⟩
        have c41 := CanAt.rw8 hkq_ lim8_L
        replace hB := hB.trans (hb.mono hB.size)
        replace c27x := c27x.below hb
        replace c27y := c27y.below hb
        replace hk8 := hk8.keep hb
        replace c40 := c40.below hb
        clear hb hkq_
        have h_ := cmp_v c40.num c41.num
        rw [← HCJ.out] at h_
        go_wp2_with fail
        refine (h_).mono ?_; rintro e_ w8 ⟨rfl, hd_⟩
        have hb := hd_.b
        replace hB := hB.trans (hb.mono hB.size)
        replace c27x := c27x.below hb
        replace c27y := c27y.below hb
        replace hk8 := hk8.keep hb
        replace c40 := c40.below hb
        replace c41 := c41.below hb
        clear hb hd_ h_
        go_wp2_with fail
        go_ret
        exact ⟨by first | done | rfl | simp, hB⟩
    · skip
      obtain rfl : code = 91 := by rw [HC.out]; exact code_short hd h64
      have g1 : ((x2.length : Int) != 64) = true := by simp; omega
      clear hd h64 HC
      go_wp2_with fail
      go_ret
      exact ⟨by first | done | rfl | simp, hB⟩
end Go.Proofs.YtlolkighnnedfaaDoor
