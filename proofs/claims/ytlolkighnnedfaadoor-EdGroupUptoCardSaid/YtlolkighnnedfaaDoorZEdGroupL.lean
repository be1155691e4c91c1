import Derived.Test.YtlolkighnnedfaaDoorZ39
import Derived.Deep.DeepCutAuto
import Derived.Deep.CutBlock
/- signetlaw13.EdGroup by its contract. (Printed by gen_edgroup.py.) -/
set_option linter.unusedVariables false
set_option linter.unusedSimpArgs false
namespace Go.Proofs.YtlolkighnnedfaaDoor
open Go.RowKit Go.Sg

set_option maxHeartbeats 4000000 in
set_option maxRecDepth 20000 in
theorem EdGroup_c {a0 a1 a2 : Option Addr} {c0 c1 c2 : Nat} {x0 x1 x2 : List Int} {w : World} (s0 : Sl .u8 w a0 c0 x0) (s1 : Sl .u8 w a1 c1 x1) (s2 : Sl .u8 w a2 c2 x2) (u0 : U8 x0) (u1 : U8 x1) (u2 : U8 x2) (hz : x0.length + x1.length + x2.length ≤ 1048576) (tP : TabAt w 0 limbP) (tD : TabAt w 3 limbD) (tI : TabAt w 4 limbI) (tL : TabAt w 2 limbL) (tB : BaseT w 1) (ht : ShaTabs w) :
  Calls Tryd.prog 7 #[.slice a0 x0.length c0, .slice a1 x1.length c1, .slice a2 x2.length c2] w (fun e w' => e = .returned (.bool true) ∧ Below w.heap.size w w') := by
 have d0 := fun W (h : Sl .u8 W a0 c0 x0) t1 t2 t3 => Decode_c (w := W) h u0 (by omega) t1 t2 t3
 obtain ⟨n0, hn0⟩ : ∃ n, n = x0.length := ⟨_, rfl⟩
 have d1 := fun W (h : Sl .u8 W a1 c1 x1) t1 t2 t3 => Decode_c (w := W) h u1 (by omega) t1 t2 t3
 obtain ⟨n1, hn1⟩ : ∃ n, n = x1.length := ⟨_, rfl⟩
 have d2 := fun W (h : Sl .u8 W a2 c2 x2) t1 t2 t3 => Decode_c (w := W) h u2 (by omega) t1 t2 t3
 obtain ⟨n2, hn2⟩ : ∃ n, n = x2.length := ⟨_, rfl⟩
 rw [← hn0] at d0 ⊢
 rw [← hn1] at d1 ⊢
 rw [← hn2] at d2 ⊢
 clear hn0 hn1 hn2 hz
 go_enter Tryd.func7, Tryd.ntmps7
 have hB := Below.refl w.heap.size w
 go_wp2_with fail
 refine (awake_c w (tP.below hB) (tD.below hB) (tI.below hB) (tL.below hB) (tB.below hB) (ht.below hB)).mono ?_; rintro e_ w1 ⟨rfl, hb⟩
 replace hB := hB.trans (hb.mono hB.size)
 clear hb
 cases hd0 : decB x0 with
 | none =>
  have h_ := d0 _ (s0.below hB) (tP.below hB) (tD.below hB) (tI.below hB)
  rw [hd0] at h_
  unfold DecPost NoPt noPt at h_
  go_wp2_with fail
  refine (h_).mono ?_; rintro e_ w2 ⟨rfl, hb⟩
  replace hB := hB.trans (hb.mono hB.size)
  clear hb h_
  go_wp2_with (refine wpList_alloc_agg rfl 29 rfl [(.slice none 0 0), (.slice none 0 0), (.bool false)] 3 (by kernel_rfl) ?_)
  intro w3 hk_ hbA_
  obtain ⟨g7, hg_⟩ : ∃ g, g = w2.heap.size := ⟨_, rfl⟩
  rw [← hg_] at hk_ ⊢
  have HGE_ : Hid (w2.heap.size ≤ g7) := Lib.hid (by rw [hg_]; exact Nat.le_refl _)
  clear hg_
  go_wp2_with (refine wpList_store_agg rfl 29 _ _ rfl g7 29 [(.slice none 0 0), (.slice none 0 0), (.bool false)] [(.slice none 0 0), (.slice none 0 0), (.bool false)] rfl rfl hk_ size_pt (by intro v_ hv_; simp only [List.mem_cons, List.not_mem_nil, or_false] at hv_; rcases hv_ with rfl | rfl | rfl <;> rfl) rfl ?_)
  intro w4 hn_ hgr_
  have hk7 := hn_
  have hb := hbA_.grown hgr_ hbA_.size (by intro k_ hk_; cases hk_; exact HGE_.out)
  clear hn_ hgr_ hk_ hbA_ HGE_
  replace hB := hB.trans (hb.mono hB.size)
  clear hb
  clear hd0
  cases hd1 : decB x1 with
  | none =>
   have h_ := d1 _ (s1.below hB) (tP.below hB) (tD.below hB) (tI.below hB)
   rw [hd1] at h_
   unfold DecPost NoPt noPt at h_
   go_wp2_with fail
   refine (h_).mono ?_; rintro e_ w5 ⟨rfl, hb⟩
   replace hB := hB.trans (hb.mono hB.size)
   replace hk7 := hk7.keep hb
   clear hb h_
   go_wp2_with (refine wpList_alloc_agg rfl 29 rfl [(.slice none 0 0), (.slice none 0 0), (.bool false)] 3 (by kernel_rfl) ?_)
   intro w6 hk_ hbA_
   obtain ⟨g9, hg_⟩ : ∃ g, g = w5.heap.size := ⟨_, rfl⟩
   rw [← hg_] at hk_ ⊢
   have HGE_ : Hid (w5.heap.size ≤ g9) := Lib.hid (by rw [hg_]; exact Nat.le_refl _)
   clear hg_
   go_wp2_with (refine wpList_store_agg rfl 29 _ _ rfl g9 29 [(.slice none 0 0), (.slice none 0 0), (.bool false)] [(.slice none 0 0), (.slice none 0 0), (.bool false)] rfl rfl hk_ size_pt (by intro v_ hv_; simp only [List.mem_cons, List.not_mem_nil, or_false] at hv_; rcases hv_ with rfl | rfl | rfl <;> rfl) rfl ?_)
   intro w7 hn_ hgr_
   have hk9 := hn_
   have hb := hbA_.grown hgr_ hbA_.size (by intro k_ hk_; cases hk_; exact HGE_.out)
   clear hn_ hgr_ hk_ hbA_ HGE_
   replace hB := hB.trans (hb.mono hB.size)
   replace hk7 := hk7.keep hb
   clear hb
   clear hd1
   cases hd2 : decB x2 with
   | none =>
    have h_ := d2 _ (s2.below hB) (tP.below hB) (tD.below hB) (tI.below hB)
    rw [hd2] at h_
    unfold DecPost NoPt noPt at h_
    go_wp2_with fail
    refine (h_).mono ?_; rintro e_ w8 ⟨rfl, hb⟩
    replace hB := hB.trans (hb.mono hB.size)
    replace hk7 := hk7.keep hb
    replace hk9 := hk9.keep hb
    clear hb h_
    go_wp2_with (refine wpList_alloc_agg rfl 29 rfl [(.slice none 0 0), (.slice none 0 0), (.bool false)] 3 (by kernel_rfl) ?_)
    intro w9 hk_ hbA_
    obtain ⟨g11, hg_⟩ : ∃ g, g = w8.heap.size := ⟨_, rfl⟩
    rw [← hg_] at hk_ ⊢
    have HGE_ : Hid (w8.heap.size ≤ g11) := Lib.hid (by rw [hg_]; exact Nat.le_refl _)
    clear hg_
    go_wp2_with (refine wpList_store_agg rfl 29 _ _ rfl g11 29 [(.slice none 0 0), (.slice none 0 0), (.bool false)] [(.slice none 0 0), (.slice none 0 0), (.bool false)] rfl rfl hk_ size_pt (by intro v_ hv_; simp only [List.mem_cons, List.not_mem_nil, or_false] at hv_; rcases hv_ with rfl | rfl | rfl <;> rfl) rfl ?_)
    intro w10 hn_ hgr_
    have hk11 := hn_
    have hb := hbA_.grown hgr_ hbA_.size (by intro k_ hk_; cases hk_; exact HGE_.out)
    clear hn_ hgr_ hk_ hbA_ HGE_
    replace hB := hB.trans (hb.mono hB.size)
    replace hk7 := hk7.keep hb
    replace hk9 := hk9.keep hb
    clear hb
    clear hd2
    have q0_ := hk7.cell 0 rfl
    have q1_ := hk7.cell 1 rfl
    have q2_ := hk7.cell 2 rfl
    go_wp2_with fail
    refine (one_c ⟨_, _, rfl, CanAt.nil0 _, CanAt.nil0 _⟩ ⟨_, _, rfl, CanAt.nil0 _, CanAt.nil0 _⟩).mono ?_; rintro e_ w11 ⟨rfl, hb⟩
    clear q0_ q1_ q2_
    replace hB := hB.trans (hb.mono hB.size)
    replace hk7 := hk7.keep hb
    replace hk9 := hk9.keep hb
    replace hk11 := hk11.keep hb
    clear hb
    have q0_ := hk9.cell 0 rfl
    have q1_ := hk9.cell 1 rfl
    have q2_ := hk9.cell 2 rfl
    go_wp2_with fail
    refine (one_c ⟨_, _, rfl, CanAt.nil0 _, CanAt.nil0 _⟩ ⟨_, _, rfl, CanAt.nil0 _, CanAt.nil0 _⟩).mono ?_; rintro e_ w12 ⟨rfl, hb⟩
    clear q0_ q1_ q2_
    replace hB := hB.trans (hb.mono hB.size)
    replace hk7 := hk7.keep hb
    replace hk9 := hk9.keep hb
    replace hk11 := hk11.keep hb
    clear hb
    have q0_ := hk11.cell 0 rfl
    have q1_ := hk11.cell 1 rfl
    have q2_ := hk11.cell 2 rfl
    go_wp2_with fail
    refine (one_c ⟨_, _, rfl, CanAt.nil0 _, CanAt.nil0 _⟩ ⟨_, _, rfl, CanAt.nil0 _, CanAt.nil0 _⟩).mono ?_; rintro e_ w13 ⟨rfl, hb⟩
    clear q0_ q1_ q2_
    replace hB := hB.trans (hb.mono hB.size)
    replace hk7 := hk7.keep hb
    replace hk9 := hk9.keep hb
    replace hk11 := hk11.keep hb
    clear hb
    go_wp2_with fail
    go_ret
    exact ⟨by first | done | rfl | simp, hB⟩
   | some R =>
    have OR := Lib.hid (decB_on hd2).2
    have h_ := d2 _ (s2.below hB) (tP.below hB) (tD.below hB) (tI.below hB)
    rw [hd2] at h_
    go_wp2_with fail
    refine (h_).mono ?_; rintro e_ w8 ⟨v41, rfl, hn, hb⟩
    obtain ⟨v41x, v41y, rfl, h1_, h2_, _⟩ := hn
    have c41x := h1_.fp
    have c41y := h2_.fp
    obtain ⟨av41x, nv41x, pv41x, rfl⟩ := c41x.sliced
    obtain ⟨av41y, nv41y, pv41y, rfl⟩ := c41y.sliced
    clear h1_ h2_
    replace hB := hB.trans (hb.mono hB.size)
    replace hk7 := hk7.keep hb
    replace hk9 := hk9.keep hb
    clear hb h_
    go_wp2_with (refine wpList_alloc_agg rfl 29 rfl [(.slice none 0 0), (.slice none 0 0), (.bool false)] 3 (by kernel_rfl) ?_)
    intro w9 hk_ hbA_
    obtain ⟨g11, hg_⟩ : ∃ g, g = w8.heap.size := ⟨_, rfl⟩
    rw [← hg_] at hk_ ⊢
    have HGE_ : Hid (w8.heap.size ≤ g11) := Lib.hid (by rw [hg_]; exact Nat.le_refl _)
    clear hg_
    go_wp2_with (refine wpList_store_agg rfl 29 _ _ rfl g11 29 [(.slice none 0 0), (.slice none 0 0), (.bool false)] [(.slice av41x nv41x pv41x), (.slice av41y nv41y pv41y), (.bool false)] rfl rfl hk_ size_pt (by intro v_ hv_; simp only [List.mem_cons, List.not_mem_nil, or_false] at hv_; rcases hv_ with rfl | rfl | rfl <;> first | rfl | exact c41x.one_cell | exact c41y.one_cell) rfl ?_)
    intro w10 hn_ hgr_
    have hk11 := hn_
    have hb := hbA_.grown hgr_ hbA_.size (by intro k_ hk_; cases hk_; exact HGE_.out)
    clear hn_ hgr_ hk_ hbA_ HGE_
    replace hB := hB.trans (hb.mono hB.size)
    replace hk7 := hk7.keep hb
    replace hk9 := hk9.keep hb
    replace c41x := c41x.below hb
    replace c41y := c41y.below hb
    clear hb
    clear hd2
    have q0_ := hk7.cell 0 rfl
    have q1_ := hk7.cell 1 rfl
    have q2_ := hk7.cell 2 rfl
    go_wp2_with fail
    refine (one_c ⟨_, _, rfl, CanAt.nil0 _, CanAt.nil0 _⟩ ⟨_, _, rfl, CanAt.nil0 _, CanAt.nil0 _⟩).mono ?_; rintro e_ w11 ⟨rfl, hb⟩
    clear q0_ q1_ q2_
    replace hB := hB.trans (hb.mono hB.size)
    replace hk7 := hk7.keep hb
    replace hk9 := hk9.keep hb
    replace c41x := c41x.below hb
    replace c41y := c41y.below hb
    replace hk11 := hk11.keep hb
    clear hb
    have q0_ := hk9.cell 0 rfl
    have q1_ := hk9.cell 1 rfl
    have q2_ := hk9.cell 2 rfl
    go_wp2_with fail
    refine (one_c ⟨_, _, rfl, CanAt.nil0 _, CanAt.nil0 _⟩ ⟨_, _, rfl, CanAt.nil0 _, CanAt.nil0 _⟩).mono ?_; rintro e_ w12 ⟨rfl, hb⟩
    clear q0_ q1_ q2_
    replace hB := hB.trans (hb.mono hB.size)
    replace hk7 := hk7.keep hb
    replace hk9 := hk9.keep hb
    replace c41x := c41x.below hb
    replace c41y := c41y.below hb
    replace hk11 := hk11.keep hb
    clear hb
    go_wp2_with fail
    go_ret
    exact ⟨by first | done | rfl | simp, hB⟩
  | some Q =>
   have OQ := Lib.hid (decB_on hd1).2
   have h_ := d1 _ (s1.below hB) (tP.below hB) (tD.below hB) (tI.below hB)
   rw [hd1] at h_
   go_wp2_with fail
   refine (h_).mono ?_; rintro e_ w5 ⟨v36, rfl, hn, hb⟩
   obtain ⟨v36x, v36y, rfl, h1_, h2_, _⟩ := hn
   have c36x := h1_.fp
   have c36y := h2_.fp
   obtain ⟨av36x, nv36x, pv36x, rfl⟩ := c36x.sliced
   obtain ⟨av36y, nv36y, pv36y, rfl⟩ := c36y.sliced
   clear h1_ h2_
   replace hB := hB.trans (hb.mono hB.size)
   replace hk7 := hk7.keep hb
   clear hb h_
   go_wp2_with (refine wpList_alloc_agg rfl 29 rfl [(.slice none 0 0), (.slice none 0 0), (.bool false)] 3 (by kernel_rfl) ?_)
   intro w6 hk_ hbA_
   obtain ⟨g9, hg_⟩ : ∃ g, g = w5.heap.size := ⟨_, rfl⟩
   rw [← hg_] at hk_ ⊢
   have HGE_ : Hid (w5.heap.size ≤ g9) := Lib.hid (by rw [hg_]; exact Nat.le_refl _)
   clear hg_
   go_wp2_with (refine wpList_store_agg rfl 29 _ _ rfl g9 29 [(.slice none 0 0), (.slice none 0 0), (.bool false)] [(.slice av36x nv36x pv36x), (.slice av36y nv36y pv36y), (.bool false)] rfl rfl hk_ size_pt (by intro v_ hv_; simp only [List.mem_cons, List.not_mem_nil, or_false] at hv_; rcases hv_ with rfl | rfl | rfl <;> first | rfl | exact c36x.one_cell | exact c36y.one_cell) rfl ?_)
   intro w7 hn_ hgr_
   have hk9 := hn_
   have hb := hbA_.grown hgr_ hbA_.size (by intro k_ hk_; cases hk_; exact HGE_.out)
   clear hn_ hgr_ hk_ hbA_ HGE_
   replace hB := hB.trans (hb.mono hB.size)
   replace hk7 := hk7.keep hb
   replace c36x := c36x.below hb
   replace c36y := c36y.below hb
   clear hb
   clear hd1
   cases hd2 : decB x2 with
   | none =>
    have h_ := d2 _ (s2.below hB) (tP.below hB) (tD.below hB) (tI.below hB)
    rw [hd2] at h_
    unfold DecPost NoPt noPt at h_
    go_wp2_with fail
    refine (h_).mono ?_; rintro e_ w8 ⟨rfl, hb⟩
    replace hB := hB.trans (hb.mono hB.size)
    replace hk7 := hk7.keep hb
    replace c36x := c36x.below hb
    replace c36y := c36y.below hb
    replace hk9 := hk9.keep hb
    clear hb h_
    go_wp2_with (refine wpList_alloc_agg rfl 29 rfl [(.slice none 0 0), (.slice none 0 0), (.bool false)] 3 (by kernel_rfl) ?_)
    intro w9 hk_ hbA_
    obtain ⟨g11, hg_⟩ : ∃ g, g = w8.heap.size := ⟨_, rfl⟩
    rw [← hg_] at hk_ ⊢
    have HGE_ : Hid (w8.heap.size ≤ g11) := Lib.hid (by rw [hg_]; exact Nat.le_refl _)
    clear hg_
    go_wp2_with (refine wpList_store_agg rfl 29 _ _ rfl g11 29 [(.slice none 0 0), (.slice none 0 0), (.bool false)] [(.slice none 0 0), (.slice none 0 0), (.bool false)] rfl rfl hk_ size_pt (by intro v_ hv_; simp only [List.mem_cons, List.not_mem_nil, or_false] at hv_; rcases hv_ with rfl | rfl | rfl <;> rfl) rfl ?_)
    intro w10 hn_ hgr_
    have hk11 := hn_
    have hb := hbA_.grown hgr_ hbA_.size (by intro k_ hk_; cases hk_; exact HGE_.out)
    clear hn_ hgr_ hk_ hbA_ HGE_
    replace hB := hB.trans (hb.mono hB.size)
    replace hk7 := hk7.keep hb
    replace c36x := c36x.below hb
    replace c36y := c36y.below hb
    replace hk9 := hk9.keep hb
    clear hb
    clear hd2
    have q0_ := hk7.cell 0 rfl
    have q1_ := hk7.cell 1 rfl
    have q2_ := hk7.cell 2 rfl
    go_wp2_with fail
    refine (one_c ⟨_, _, rfl, CanAt.nil0 _, CanAt.nil0 _⟩ ⟨_, _, rfl, CanAt.nil0 _, CanAt.nil0 _⟩).mono ?_; rintro e_ w11 ⟨rfl, hb⟩
    clear q0_ q1_ q2_
    replace hB := hB.trans (hb.mono hB.size)
    replace hk7 := hk7.keep hb
    replace c36x := c36x.below hb
    replace c36y := c36y.below hb
    replace hk9 := hk9.keep hb
    replace hk11 := hk11.keep hb
    clear hb
    have q0_ := hk11.cell 0 rfl
    have q1_ := hk11.cell 1 rfl
    have q2_ := hk11.cell 2 rfl
    go_wp2_with fail
    refine (one_c ⟨_, _, rfl, CanAt.nil0 _, CanAt.nil0 _⟩ ⟨_, _, rfl, CanAt.nil0 _, CanAt.nil0 _⟩).mono ?_; rintro e_ w12 ⟨rfl, hb⟩
    clear q0_ q1_ q2_
    replace hB := hB.trans (hb.mono hB.size)
    replace hk7 := hk7.keep hb
    replace c36x := c36x.below hb
    replace c36y := c36y.below hb
    replace hk9 := hk9.keep hb
    replace hk11 := hk11.keep hb
    clear hb
    go_wp2_with fail
    go_ret
    exact ⟨by first | done | rfl | simp, hB⟩
   | some R =>
    have OR := Lib.hid (decB_on hd2).2
    have h_ := d2 _ (s2.below hB) (tP.below hB) (tD.below hB) (tI.below hB)
    rw [hd2] at h_
    go_wp2_with fail
    refine (h_).mono ?_; rintro e_ w8 ⟨v41, rfl, hn, hb⟩
    obtain ⟨v41x, v41y, rfl, h1_, h2_, _⟩ := hn
    have c41x := h1_.fp
    have c41y := h2_.fp
    obtain ⟨av41x, nv41x, pv41x, rfl⟩ := c41x.sliced
    obtain ⟨av41y, nv41y, pv41y, rfl⟩ := c41y.sliced
    clear h1_ h2_
    replace hB := hB.trans (hb.mono hB.size)
    replace hk7 := hk7.keep hb
    replace c36x := c36x.below hb
    replace c36y := c36y.below hb
    replace hk9 := hk9.keep hb
    clear hb h_
    go_wp2_with (refine wpList_alloc_agg rfl 29 rfl [(.slice none 0 0), (.slice none 0 0), (.bool false)] 3 (by kernel_rfl) ?_)
    intro w9 hk_ hbA_
    obtain ⟨g11, hg_⟩ : ∃ g, g = w8.heap.size := ⟨_, rfl⟩
    rw [← hg_] at hk_ ⊢
    have HGE_ : Hid (w8.heap.size ≤ g11) := Lib.hid (by rw [hg_]; exact Nat.le_refl _)
    clear hg_
    go_wp2_with (refine wpList_store_agg rfl 29 _ _ rfl g11 29 [(.slice none 0 0), (.slice none 0 0), (.bool false)] [(.slice av41x nv41x pv41x), (.slice av41y nv41y pv41y), (.bool false)] rfl rfl hk_ size_pt (by intro v_ hv_; simp only [List.mem_cons, List.not_mem_nil, or_false] at hv_; rcases hv_ with rfl | rfl | rfl <;> first | rfl | exact c41x.one_cell | exact c41y.one_cell) rfl ?_)
    intro w10 hn_ hgr_
    have hk11 := hn_
    have hb := hbA_.grown hgr_ hbA_.size (by intro k_ hk_; cases hk_; exact HGE_.out)
    clear hn_ hgr_ hk_ hbA_ HGE_
    replace hB := hB.trans (hb.mono hB.size)
    replace hk7 := hk7.keep hb
    replace c36x := c36x.below hb
    replace c36y := c36y.below hb
    replace hk9 := hk9.keep hb
    replace c41x := c41x.below hb
    replace c41y := c41y.below hb
    clear hb
    clear hd2
    have q0_ := hk7.cell 0 rfl
    have q1_ := hk7.cell 1 rfl
    have q2_ := hk7.cell 2 rfl
    go_wp2_with fail
    refine (one_c ⟨_, _, rfl, CanAt.nil0 _, CanAt.nil0 _⟩ ⟨_, _, rfl, CanAt.nil0 _, CanAt.nil0 _⟩).mono ?_; rintro e_ w11 ⟨rfl, hb⟩
    clear q0_ q1_ q2_
    replace hB := hB.trans (hb.mono hB.size)
    replace hk7 := hk7.keep hb
    replace c36x := c36x.below hb
    replace c36y := c36y.below hb
    replace hk9 := hk9.keep hb
    replace c41x := c41x.below hb
    replace c41y := c41y.below hb
    replace hk11 := hk11.keep hb
    clear hb
    go_wp2_with fail
    go_ret
    exact ⟨by first | done | rfl | simp, hB⟩
 | some P =>
  have OP := Lib.hid (decB_on hd0).2
  have h_ := d0 _ (s0.below hB) (tP.below hB) (tD.below hB) (tI.below hB)
  rw [hd0] at h_
  go_wp2_with fail
  refine (h_).mono ?_; rintro e_ w2 ⟨v31, rfl, hn, hb⟩
  obtain ⟨v31x, v31y, rfl, h1_, h2_, _⟩ := hn
  have c31x := h1_.fp
  have c31y := h2_.fp
  obtain ⟨av31x, nv31x, pv31x, rfl⟩ := c31x.sliced
  obtain ⟨av31y, nv31y, pv31y, rfl⟩ := c31y.sliced
  clear h1_ h2_
  replace hB := hB.trans (hb.mono hB.size)
  clear hb h_
  go_wp2_with (refine wpList_alloc_agg rfl 29 rfl [(.slice none 0 0), (.slice none 0 0), (.bool false)] 3 (by kernel_rfl) ?_)
  intro w3 hk_ hbA_
  obtain ⟨g7, hg_⟩ : ∃ g, g = w2.heap.size := ⟨_, rfl⟩
  rw [← hg_] at hk_ ⊢
  have HGE_ : Hid (w2.heap.size ≤ g7) := Lib.hid (by rw [hg_]; exact Nat.le_refl _)
  clear hg_
  go_wp2_with (refine wpList_store_agg rfl 29 _ _ rfl g7 29 [(.slice none 0 0), (.slice none 0 0), (.bool false)] [(.slice av31x nv31x pv31x), (.slice av31y nv31y pv31y), (.bool false)] rfl rfl hk_ size_pt (by intro v_ hv_; simp only [List.mem_cons, List.not_mem_nil, or_false] at hv_; rcases hv_ with rfl | rfl | rfl <;> first | rfl | exact c31x.one_cell | exact c31y.one_cell) rfl ?_)
  intro w4 hn_ hgr_
  have hk7 := hn_
  have hb := hbA_.grown hgr_ hbA_.size (by intro k_ hk_; cases hk_; exact HGE_.out)
  clear hn_ hgr_ hk_ hbA_ HGE_
  replace hB := hB.trans (hb.mono hB.size)
  replace c31x := c31x.below hb
  replace c31y := c31y.below hb
  clear hb
  clear hd0
  cases hd1 : decB x1 with
  | none =>
   have h_ := d1 _ (s1.below hB) (tP.below hB) (tD.below hB) (tI.below hB)
   rw [hd1] at h_
   unfold DecPost NoPt noPt at h_
   go_wp2_with fail
   refine (h_).mono ?_; rintro e_ w5 ⟨rfl, hb⟩
   replace hB := hB.trans (hb.mono hB.size)
   replace c31x := c31x.below hb
   replace c31y := c31y.below hb
   replace hk7 := hk7.keep hb
   clear hb h_
   go_wp2_with (refine wpList_alloc_agg rfl 29 rfl [(.slice none 0 0), (.slice none 0 0), (.bool false)] 3 (by kernel_rfl) ?_)
   intro w6 hk_ hbA_
   obtain ⟨g9, hg_⟩ : ∃ g, g = w5.heap.size := ⟨_, rfl⟩
   rw [← hg_] at hk_ ⊢
   have HGE_ : Hid (w5.heap.size ≤ g9) := Lib.hid (by rw [hg_]; exact Nat.le_refl _)
   clear hg_
   go_wp2_with (refine wpList_store_agg rfl 29 _ _ rfl g9 29 [(.slice none 0 0), (.slice none 0 0), (.bool false)] [(.slice none 0 0), (.slice none 0 0), (.bool false)] rfl rfl hk_ size_pt (by intro v_ hv_; simp only [List.mem_cons, List.not_mem_nil, or_false] at hv_; rcases hv_ with rfl | rfl | rfl <;> rfl) rfl ?_)
   intro w7 hn_ hgr_
   have hk9 := hn_
   have hb := hbA_.grown hgr_ hbA_.size (by intro k_ hk_; cases hk_; exact HGE_.out)
   clear hn_ hgr_ hk_ hbA_ HGE_
   replace hB := hB.trans (hb.mono hB.size)
   replace c31x := c31x.below hb
   replace c31y := c31y.below hb
   replace hk7 := hk7.keep hb
   clear hb
   clear hd1
   cases hd2 : decB x2 with
   | none =>
    have h_ := d2 _ (s2.below hB) (tP.below hB) (tD.below hB) (tI.below hB)
    rw [hd2] at h_
    unfold DecPost NoPt noPt at h_
    go_wp2_with fail
    refine (h_).mono ?_; rintro e_ w8 ⟨rfl, hb⟩
    replace hB := hB.trans (hb.mono hB.size)
    replace c31x := c31x.below hb
    replace c31y := c31y.below hb
    replace hk7 := hk7.keep hb
    replace hk9 := hk9.keep hb
    clear hb h_
    go_wp2_with (refine wpList_alloc_agg rfl 29 rfl [(.slice none 0 0), (.slice none 0 0), (.bool false)] 3 (by kernel_rfl) ?_)
    intro w9 hk_ hbA_
    obtain ⟨g11, hg_⟩ : ∃ g, g = w8.heap.size := ⟨_, rfl⟩
    rw [← hg_] at hk_ ⊢
    have HGE_ : Hid (w8.heap.size ≤ g11) := Lib.hid (by rw [hg_]; exact Nat.le_refl _)
    clear hg_
    go_wp2_with (refine wpList_store_agg rfl 29 _ _ rfl g11 29 [(.slice none 0 0), (.slice none 0 0), (.bool false)] [(.slice none 0 0), (.slice none 0 0), (.bool false)] rfl rfl hk_ size_pt (by intro v_ hv_; simp only [List.mem_cons, List.not_mem_nil, or_false] at hv_; rcases hv_ with rfl | rfl | rfl <;> rfl) rfl ?_)
    intro w10 hn_ hgr_
    have hk11 := hn_
    have hb := hbA_.grown hgr_ hbA_.size (by intro k_ hk_; cases hk_; exact HGE_.out)
    clear hn_ hgr_ hk_ hbA_ HGE_
    replace hB := hB.trans (hb.mono hB.size)
    replace c31x := c31x.below hb
    replace c31y := c31y.below hb
    replace hk7 := hk7.keep hb
    replace hk9 := hk9.keep hb
    clear hb
    clear hd2
    have q0_ := hk9.cell 0 rfl
    have q1_ := hk9.cell 1 rfl
    have q2_ := hk9.cell 2 rfl
    go_wp2_with fail
    refine (one_c ⟨_, _, rfl, CanAt.nil0 _, CanAt.nil0 _⟩ ⟨_, _, rfl, CanAt.nil0 _, CanAt.nil0 _⟩).mono ?_; rintro e_ w11 ⟨rfl, hb⟩
    clear q0_ q1_ q2_
    replace hB := hB.trans (hb.mono hB.size)
    replace c31x := c31x.below hb
    replace c31y := c31y.below hb
    replace hk7 := hk7.keep hb
    replace hk9 := hk9.keep hb
    replace hk11 := hk11.keep hb
    clear hb
    have q0_ := hk11.cell 0 rfl
    have q1_ := hk11.cell 1 rfl
    have q2_ := hk11.cell 2 rfl
    go_wp2_with fail
    refine (one_c ⟨_, _, rfl, CanAt.nil0 _, CanAt.nil0 _⟩ ⟨_, _, rfl, CanAt.nil0 _, CanAt.nil0 _⟩).mono ?_; rintro e_ w12 ⟨rfl, hb⟩
    clear q0_ q1_ q2_
    replace hB := hB.trans (hb.mono hB.size)
    replace c31x := c31x.below hb
    replace c31y := c31y.below hb
    replace hk7 := hk7.keep hb
    replace hk9 := hk9.keep hb
    replace hk11 := hk11.keep hb
    clear hb
    go_wp2_with fail
    go_ret
    exact ⟨by first | done | rfl | simp, hB⟩
   | some R =>
    have OR := Lib.hid (decB_on hd2).2
    have h_ := d2 _ (s2.below hB) (tP.below hB) (tD.below hB) (tI.below hB)
    rw [hd2] at h_
    go_wp2_with fail
    refine (h_).mono ?_; rintro e_ w8 ⟨v41, rfl, hn, hb⟩
    obtain ⟨v41x, v41y, rfl, h1_, h2_, _⟩ := hn
    have c41x := h1_.fp
    have c41y := h2_.fp
    obtain ⟨av41x, nv41x, pv41x, rfl⟩ := c41x.sliced
    obtain ⟨av41y, nv41y, pv41y, rfl⟩ := c41y.sliced
    clear h1_ h2_
    replace hB := hB.trans (hb.mono hB.size)
    replace c31x := c31x.below hb
    replace c31y := c31y.below hb
    replace hk7 := hk7.keep hb
    replace hk9 := hk9.keep hb
    clear hb h_
    go_wp2_with (refine wpList_alloc_agg rfl 29 rfl [(.slice none 0 0), (.slice none 0 0), (.bool false)] 3 (by kernel_rfl) ?_)
    intro w9 hk_ hbA_
    obtain ⟨g11, hg_⟩ : ∃ g, g = w8.heap.size := ⟨_, rfl⟩
    rw [← hg_] at hk_ ⊢
    have HGE_ : Hid (w8.heap.size ≤ g11) := Lib.hid (by rw [hg_]; exact Nat.le_refl _)
    clear hg_
    go_wp2_with (refine wpList_store_agg rfl 29 _ _ rfl g11 29 [(.slice none 0 0), (.slice none 0 0), (.bool false)] [(.slice av41x nv41x pv41x), (.slice av41y nv41y pv41y), (.bool false)] rfl rfl hk_ size_pt (by intro v_ hv_; simp only [List.mem_cons, List.not_mem_nil, or_false] at hv_; rcases hv_ with rfl | rfl | rfl <;> first | rfl | exact c41x.one_cell | exact c41y.one_cell) rfl ?_)
    intro w10 hn_ hgr_
    have hk11 := hn_
    have hb := hbA_.grown hgr_ hbA_.size (by intro k_ hk_; cases hk_; exact HGE_.out)
    clear hn_ hgr_ hk_ hbA_ HGE_
    replace hB := hB.trans (hb.mono hB.size)
    replace c31x := c31x.below hb
    replace c31y := c31y.below hb
    replace hk7 := hk7.keep hb
    replace hk9 := hk9.keep hb
    replace c41x := c41x.below hb
    replace c41y := c41y.below hb
    clear hb
    clear hd2
    have q0_ := hk9.cell 0 rfl
    have q1_ := hk9.cell 1 rfl
    have q2_ := hk9.cell 2 rfl
    go_wp2_with fail
    refine (one_c ⟨_, _, rfl, CanAt.nil0 _, CanAt.nil0 _⟩ ⟨_, _, rfl, CanAt.nil0 _, CanAt.nil0 _⟩).mono ?_; rintro e_ w11 ⟨rfl, hb⟩
    clear q0_ q1_ q2_
    replace hB := hB.trans (hb.mono hB.size)
    replace c31x := c31x.below hb
    replace c31y := c31y.below hb
    replace hk7 := hk7.keep hb
    replace hk9 := hk9.keep hb
    replace c41x := c41x.below hb
    replace c41y := c41y.below hb
    replace hk11 := hk11.keep hb
    clear hb
    go_wp2_with fail
    go_ret
    exact ⟨by first | done | rfl | simp, hB⟩
  | some Q =>
   have OQ := Lib.hid (decB_on hd1).2
   have h_ := d1 _ (s1.below hB) (tP.below hB) (tD.below hB) (tI.below hB)
   rw [hd1] at h_
   go_wp2_with fail
   refine (h_).mono ?_; rintro e_ w5 ⟨v36, rfl, hn, hb⟩
   obtain ⟨v36x, v36y, rfl, h1_, h2_, _⟩ := hn
   have c36x := h1_.fp
   have c36y := h2_.fp
   obtain ⟨av36x, nv36x, pv36x, rfl⟩ := c36x.sliced
   obtain ⟨av36y, nv36y, pv36y, rfl⟩ := c36y.sliced
   clear h1_ h2_
   replace hB := hB.trans (hb.mono hB.size)
   replace c31x := c31x.below hb
   replace c31y := c31y.below hb
   replace hk7 := hk7.keep hb
   clear hb h_
   go_wp2_with (refine wpList_alloc_agg rfl 29 rfl [(.slice none 0 0), (.slice none 0 0), (.bool false)] 3 (by kernel_rfl) ?_)
   intro w6 hk_ hbA_
   obtain ⟨g9, hg_⟩ : ∃ g, g = w5.heap.size := ⟨_, rfl⟩
   rw [← hg_] at hk_ ⊢
   have HGE_ : Hid (w5.heap.size ≤ g9) := Lib.hid (by rw [hg_]; exact Nat.le_refl _)
   clear hg_
   go_wp2_with (refine wpList_store_agg rfl 29 _ _ rfl g9 29 [(.slice none 0 0), (.slice none 0 0), (.bool false)] [(.slice av36x nv36x pv36x), (.slice av36y nv36y pv36y), (.bool false)] rfl rfl hk_ size_pt (by intro v_ hv_; simp only [List.mem_cons, List.not_mem_nil, or_false] at hv_; rcases hv_ with rfl | rfl | rfl <;> first | rfl | exact c36x.one_cell | exact c36y.one_cell) rfl ?_)
   intro w7 hn_ hgr_
   have hk9 := hn_
   have hb := hbA_.grown hgr_ hbA_.size (by intro k_ hk_; cases hk_; exact HGE_.out)
   clear hn_ hgr_ hk_ hbA_ HGE_
   replace hB := hB.trans (hb.mono hB.size)
   replace c31x := c31x.below hb
   replace c31y := c31y.below hb
   replace hk7 := hk7.keep hb
   replace c36x := c36x.below hb
   replace c36y := c36y.below hb
   clear hb
   clear hd1
   cases hd2 : decB x2 with
   | none =>
    have h_ := d2 _ (s2.below hB) (tP.below hB) (tD.below hB) (tI.below hB)
    rw [hd2] at h_
    unfold DecPost NoPt noPt at h_
    go_wp2_with fail
    refine (h_).mono ?_; rintro e_ w8 ⟨rfl, hb⟩
    replace hB := hB.trans (hb.mono hB.size)
    replace c31x := c31x.below hb
    replace c31y := c31y.below hb
    replace hk7 := hk7.keep hb
    replace c36x := c36x.below hb
    replace c36y := c36y.below hb
    replace hk9 := hk9.keep hb
    clear hb h_
    go_wp2_with (refine wpList_alloc_agg rfl 29 rfl [(.slice none 0 0), (.slice none 0 0), (.bool false)] 3 (by kernel_rfl) ?_)
    intro w9 hk_ hbA_
    obtain ⟨g11, hg_⟩ : ∃ g, g = w8.heap.size := ⟨_, rfl⟩
    rw [← hg_] at hk_ ⊢
    have HGE_ : Hid (w8.heap.size ≤ g11) := Lib.hid (by rw [hg_]; exact Nat.le_refl _)
    clear hg_
    go_wp2_with (refine wpList_store_agg rfl 29 _ _ rfl g11 29 [(.slice none 0 0), (.slice none 0 0), (.bool false)] [(.slice none 0 0), (.slice none 0 0), (.bool false)] rfl rfl hk_ size_pt (by intro v_ hv_; simp only [List.mem_cons, List.not_mem_nil, or_false] at hv_; rcases hv_ with rfl | rfl | rfl <;> rfl) rfl ?_)
    intro w10 hn_ hgr_
    have hk11 := hn_
    have hb := hbA_.grown hgr_ hbA_.size (by intro k_ hk_; cases hk_; exact HGE_.out)
    clear hn_ hgr_ hk_ hbA_ HGE_
    replace hB := hB.trans (hb.mono hB.size)
    replace c31x := c31x.below hb
    replace c31y := c31y.below hb
    replace hk7 := hk7.keep hb
    replace c36x := c36x.below hb
    replace c36y := c36y.below hb
    replace hk9 := hk9.keep hb
    clear hb
    clear hd2
    have q0_ := hk11.cell 0 rfl
    have q1_ := hk11.cell 1 rfl
    have q2_ := hk11.cell 2 rfl
    go_wp2_with fail
    refine (one_c ⟨_, _, rfl, CanAt.nil0 _, CanAt.nil0 _⟩ ⟨_, _, rfl, CanAt.nil0 _, CanAt.nil0 _⟩).mono ?_; rintro e_ w11 ⟨rfl, hb⟩
    clear q0_ q1_ q2_
    replace hB := hB.trans (hb.mono hB.size)
    replace c31x := c31x.below hb
    replace c31y := c31y.below hb
    replace hk7 := hk7.keep hb
    replace c36x := c36x.below hb
    replace c36y := c36y.below hb
    replace hk9 := hk9.keep hb
    replace hk11 := hk11.keep hb
    clear hb
    go_wp2_with fail
    go_ret
    exact ⟨by first | done | rfl | simp, hB⟩
   | some R =>
    have OR := Lib.hid (decB_on hd2).2
    have h_ := d2 _ (s2.below hB) (tP.below hB) (tD.below hB) (tI.below hB)
    rw [hd2] at h_
    go_wp2_with fail
    refine (h_).mono ?_; rintro e_ w8 ⟨v41, rfl, hn, hb⟩
    obtain ⟨v41x, v41y, rfl, h1_, h2_, _⟩ := hn
    have c41x := h1_.fp
    have c41y := h2_.fp
    obtain ⟨av41x, nv41x, pv41x, rfl⟩ := c41x.sliced
    obtain ⟨av41y, nv41y, pv41y, rfl⟩ := c41y.sliced
    clear h1_ h2_
    replace hB := hB.trans (hb.mono hB.size)
    replace c31x := c31x.below hb
    replace c31y := c31y.below hb
    replace hk7 := hk7.keep hb
    replace c36x := c36x.below hb
    replace c36y := c36y.below hb
    replace hk9 := hk9.keep hb
    clear hb h_
    go_wp2_with (refine wpList_alloc_agg rfl 29 rfl [(.slice none 0 0), (.slice none 0 0), (.bool false)] 3 (by kernel_rfl) ?_)
    intro w9 hk_ hbA_
    obtain ⟨g11, hg_⟩ : ∃ g, g = w8.heap.size := ⟨_, rfl⟩
    rw [← hg_] at hk_ ⊢
    have HGE_ : Hid (w8.heap.size ≤ g11) := Lib.hid (by rw [hg_]; exact Nat.le_refl _)
    clear hg_
    go_wp2_with (refine wpList_store_agg rfl 29 _ _ rfl g11 29 [(.slice none 0 0), (.slice none 0 0), (.bool false)] [(.slice av41x nv41x pv41x), (.slice av41y nv41y pv41y), (.bool false)] rfl rfl hk_ size_pt (by intro v_ hv_; simp only [List.mem_cons, List.not_mem_nil, or_false] at hv_; rcases hv_ with rfl | rfl | rfl <;> first | rfl | exact c41x.one_cell | exact c41y.one_cell) rfl ?_)
    intro w10 hn_ hgr_
    have hk11 := hn_
    have hb := hbA_.grown hgr_ hbA_.size (by intro k_ hk_; cases hk_; exact HGE_.out)
    clear hn_ hgr_ hk_ hbA_ HGE_
    replace hB := hB.trans (hb.mono hB.size)
    replace c31x := c31x.below hb
    replace c31y := c31y.below hb
    replace hk7 := hk7.keep hb
    replace c36x := c36x.below hb
    replace c36y := c36y.below hb
    replace hk9 := hk9.keep hb
    replace c41x := c41x.below hb
    replace c41y := c41y.below hb
    clear hb
    clear hd2
    have h_ := on13_c (inf := false) c31x c31y
    rw [onB_of OP.out] at h_
    have q0_ := hk7.cell 0 rfl
    have q1_ := hk7.cell 1 rfl
    have q2_ := hk7.cell 2 rfl
    go_wp2_with fail
    refine (h_).mono ?_; rintro e_ w11 ⟨rfl, hb⟩
    clear q0_ q1_ q2_
    replace hB := hB.trans (hb.mono hB.size)
    replace c31x := c31x.below hb
    replace c31y := c31y.below hb
    replace hk7 := hk7.keep hb
    replace c36x := c36x.below hb
    replace c36y := c36y.below hb
    replace hk9 := hk9.keep hb
    replace c41x := c41x.below hb
    replace c41y := c41y.below hb
    replace hk11 := hk11.keep hb
    clear hb h_
    have h_ := on13_c (inf := false) c36x c36y
    rw [onB_of OQ.out] at h_
    have q0_ := hk9.cell 0 rfl
    have q1_ := hk9.cell 1 rfl
    have q2_ := hk9.cell 2 rfl
    go_wp2_with fail
    refine (h_).mono ?_; rintro e_ w12 ⟨rfl, hb⟩
    clear q0_ q1_ q2_
    replace hB := hB.trans (hb.mono hB.size)
    replace c31x := c31x.below hb
    replace c31y := c31y.below hb
    replace hk7 := hk7.keep hb
    replace c36x := c36x.below hb
    replace c36y := c36y.below hb
    replace hk9 := hk9.keep hb
    replace c41x := c41x.below hb
    replace c41y := c41y.below hb
    replace hk11 := hk11.keep hb
    clear hb h_
    have h_ := on13_c (inf := false) c41x c41y
    rw [onB_of OR.out] at h_
    have q0_ := hk11.cell 0 rfl
    have q1_ := hk11.cell 1 rfl
    have q2_ := hk11.cell 2 rfl
    go_wp2_with fail
    refine (h_).mono ?_; rintro e_ w13 ⟨rfl, hb⟩
    clear q0_ q1_ q2_
    replace hB := hB.trans (hb.mono hB.size)
    replace c31x := c31x.below hb
    replace c31y := c31y.below hb
    replace hk7 := hk7.keep hb
    replace c36x := c36x.below hb
    replace c36y := c36y.below hb
    replace hk9 := hk9.keep hb
    replace c41x := c41x.below hb
    replace c41y := c41y.below hb
    replace hk11 := hk11.keep hb
    clear hb h_
    obtain ⟨S1, hS1⟩ : ∃ s, s = eAdd P Q := ⟨_, rfl⟩
    have OS1 : Hid (OnC S1) := Lib.hid (by rw [hS1]; exact eAdd_on OP.out OQ.out)
    have h_ := add_ok ⟨_, _, rfl, c31x.num, c31y.num⟩ ⟨_, _, rfl, c36x.num, c36y.num⟩ OP.out OQ.out (tP.below hB) (tD.below hB)
    rw [← hS1] at h_
    have HS1 := Lib.hid hS1
    clear hS1
    go_wp2_with (first | refine wpList_load_agg rfl 29 _ rfl g7 rfl _ [(.slice av31x nv31x pv31x), (.slice av31y nv31y pv31y), (.bool false)] _ hk7 Tryd.underlying29 rfl size_pt ?_ | refine wpList_load_agg rfl 29 _ rfl g9 rfl _ [(.slice av36x nv36x pv36x), (.slice av36y nv36y pv36y), (.bool false)] _ hk9 Tryd.underlying29 rfl size_pt ?_)
    refine (h_).mono ?_; rintro e_ w14 ⟨v95, rfl, hn, hb⟩
    obtain ⟨v95x, v95y, rfl, h1_, h2_, _⟩ := hn
    have c95x := h1_.fp
    have c95y := h2_.fp
    obtain ⟨av95x, nv95x, pv95x, rfl⟩ := c95x.sliced
    obtain ⟨av95y, nv95y, pv95y, rfl⟩ := c95y.sliced
    clear h1_ h2_
    replace hB := hB.trans (hb.mono hB.size)
    replace c31x := c31x.below hb
    replace c31y := c31y.below hb
    replace hk7 := hk7.keep hb
    replace c36x := c36x.below hb
    replace c36y := c36y.below hb
    replace hk9 := hk9.keep hb
    replace c41x := c41x.below hb
    replace c41y := c41y.below hb
    replace hk11 := hk11.keep hb
    clear hb h_
    go_wp2_with (refine wpList_alloc_agg rfl 29 rfl [(.slice none 0 0), (.slice none 0 0), (.bool false)] 3 (by kernel_rfl) ?_)
    intro w15 hk_ hbA_
    obtain ⟨g13, hg_⟩ : ∃ g, g = w14.heap.size := ⟨_, rfl⟩
    rw [← hg_] at hk_ ⊢
    have HGE_ : Hid (w14.heap.size ≤ g13) := Lib.hid (by rw [hg_]; exact Nat.le_refl _)
    clear hg_
    go_wp2_with (refine wpList_store_agg rfl 29 _ _ rfl g13 29 [(.slice none 0 0), (.slice none 0 0), (.bool false)] [(.slice av95x nv95x pv95x), (.slice av95y nv95y pv95y), (.bool false)] rfl rfl hk_ size_pt (by intro v_ hv_; simp only [List.mem_cons, List.not_mem_nil, or_false] at hv_; rcases hv_ with rfl | rfl | rfl <;> first | rfl | exact c95x.one_cell | exact c95y.one_cell) rfl ?_)
    intro w16 hn_ hgr_
    have hk13 := hn_
    have hb := hbA_.grown hgr_ hbA_.size (by intro k_ hk_; cases hk_; exact HGE_.out)
    clear hn_ hgr_ hk_ hbA_ HGE_
    replace hB := hB.trans (hb.mono hB.size)
    replace c31x := c31x.below hb
    replace c31y := c31y.below hb
    replace hk7 := hk7.keep hb
    replace c36x := c36x.below hb
    replace c36y := c36y.below hb
    replace hk9 := hk9.keep hb
    replace c41x := c41x.below hb
    replace c41y := c41y.below hb
    replace hk11 := hk11.keep hb
    replace c95x := c95x.below hb
    replace c95y := c95y.below hb
    clear hb
    have h_ := add_ok ⟨_, _, rfl, c36x.num, c36y.num⟩ ⟨_, _, rfl, c31x.num, c31y.num⟩ OQ.out OP.out (tP.below hB) (tD.below hB)
    rw [eAdd_comm Q P, ← HS1.out] at h_
    go_wp2_with (first | refine wpList_load_agg rfl 29 _ rfl g9 rfl _ [(.slice av36x nv36x pv36x), (.slice av36y nv36y pv36y), (.bool false)] _ hk9 Tryd.underlying29 rfl size_pt ?_ | refine wpList_load_agg rfl 29 _ rfl g7 rfl _ [(.slice av31x nv31x pv31x), (.slice av31y nv31y pv31y), (.bool false)] _ hk7 Tryd.underlying29 rfl size_pt ?_)
    refine (h_).mono ?_; rintro e_ w17 ⟨v101, rfl, hn, hb⟩
    obtain ⟨v101x, v101y, rfl, h1_, h2_, _⟩ := hn
    have c101x := h1_.fp
    have c101y := h2_.fp
    obtain ⟨av101x, nv101x, pv101x, rfl⟩ := c101x.sliced
    obtain ⟨av101y, nv101y, pv101y, rfl⟩ := c101y.sliced
    clear h1_ h2_
    replace hB := hB.trans (hb.mono hB.size)
    replace c31x := c31x.below hb
    replace c31y := c31y.below hb
    replace hk7 := hk7.keep hb
    replace c36x := c36x.below hb
    replace c36y := c36y.below hb
    replace hk9 := hk9.keep hb
    replace c41x := c41x.below hb
    replace c41y := c41y.below hb
    replace hk11 := hk11.keep hb
    replace c95x := c95x.below hb
    replace c95y := c95y.below hb
    replace hk13 := hk13.keep hb
    clear hb h_
    go_wp2_with (refine wpList_alloc_agg rfl 29 rfl [(.slice none 0 0), (.slice none 0 0), (.bool false)] 3 (by kernel_rfl) ?_)
    intro w18 hk_ hbA_
    obtain ⟨g15, hg_⟩ : ∃ g, g = w17.heap.size := ⟨_, rfl⟩
    rw [← hg_] at hk_ ⊢
    have HGE_ : Hid (w17.heap.size ≤ g15) := Lib.hid (by rw [hg_]; exact Nat.le_refl _)
    clear hg_
    go_wp2_with (refine wpList_store_agg rfl 29 _ _ rfl g15 29 [(.slice none 0 0), (.slice none 0 0), (.bool false)] [(.slice av101x nv101x pv101x), (.slice av101y nv101y pv101y), (.bool false)] rfl rfl hk_ size_pt (by intro v_ hv_; simp only [List.mem_cons, List.not_mem_nil, or_false] at hv_; rcases hv_ with rfl | rfl | rfl <;> first | rfl | exact c101x.one_cell | exact c101y.one_cell) rfl ?_)
    intro w19 hn_ hgr_
    have hk15 := hn_
    have hb := hbA_.grown hgr_ hbA_.size (by intro k_ hk_; cases hk_; exact HGE_.out)
    clear hn_ hgr_ hk_ hbA_ HGE_
    replace hB := hB.trans (hb.mono hB.size)
    replace c31x := c31x.below hb
    replace c31y := c31y.below hb
    replace hk7 := hk7.keep hb
    replace c36x := c36x.below hb
    replace c36y := c36y.below hb
    replace hk9 := hk9.keep hb
    replace c41x := c41x.below hb
    replace c41y := c41y.below hb
    replace hk11 := hk11.keep hb
    replace c95x := c95x.below hb
    replace c95y := c95y.below hb
    replace hk13 := hk13.keep hb
    replace c101x := c101x.below hb
    replace c101y := c101y.below hb
    clear hb
    obtain ⟨S2, hS2⟩ : ∃ s, s = eAdd Q R := ⟨_, rfl⟩
    have OS2 : Hid (OnC S2) := Lib.hid (by rw [hS2]; exact eAdd_on OQ.out OR.out)
    have h_ := add_ok ⟨_, _, rfl, c36x.num, c36y.num⟩ ⟨_, _, rfl, c41x.num, c41y.num⟩ OQ.out OR.out (tP.below hB) (tD.below hB)
    rw [← hS2] at h_
    have HS2 := Lib.hid hS2
    clear hS2
    go_wp2_with (first | refine wpList_load_agg rfl 29 _ rfl g9 rfl _ [(.slice av36x nv36x pv36x), (.slice av36y nv36y pv36y), (.bool false)] _ hk9 Tryd.underlying29 rfl size_pt ?_ | refine wpList_load_agg rfl 29 _ rfl g11 rfl _ [(.slice av41x nv41x pv41x), (.slice av41y nv41y pv41y), (.bool false)] _ hk11 Tryd.underlying29 rfl size_pt ?_)
    refine (h_).mono ?_; rintro e_ w20 ⟨v107, rfl, hn, hb⟩
    obtain ⟨v107x, v107y, rfl, h1_, h2_, _⟩ := hn
    have c107x := h1_.fp
    have c107y := h2_.fp
    obtain ⟨av107x, nv107x, pv107x, rfl⟩ := c107x.sliced
    obtain ⟨av107y, nv107y, pv107y, rfl⟩ := c107y.sliced
    clear h1_ h2_
    replace hB := hB.trans (hb.mono hB.size)
    replace c31x := c31x.below hb
    replace c31y := c31y.below hb
    replace hk7 := hk7.keep hb
    replace c36x := c36x.below hb
    replace c36y := c36y.below hb
    replace hk9 := hk9.keep hb
    replace c41x := c41x.below hb
    replace c41y := c41y.below hb
    replace hk11 := hk11.keep hb
    replace c95x := c95x.below hb
    replace c95y := c95y.below hb
    replace hk13 := hk13.keep hb
    replace c101x := c101x.below hb
    replace c101y := c101y.below hb
    replace hk15 := hk15.keep hb
    clear hb h_
    go_wp2_with (refine wpList_alloc_agg rfl 29 rfl [(.slice none 0 0), (.slice none 0 0), (.bool false)] 3 (by kernel_rfl) ?_)
    intro w21 hk_ hbA_
    obtain ⟨g17, hg_⟩ : ∃ g, g = w20.heap.size := ⟨_, rfl⟩
    rw [← hg_] at hk_ ⊢
    have HGE_ : Hid (w20.heap.size ≤ g17) := Lib.hid (by rw [hg_]; exact Nat.le_refl _)
    clear hg_
    go_wp2_with (refine wpList_store_agg rfl 29 _ _ rfl g17 29 [(.slice none 0 0), (.slice none 0 0), (.bool false)] [(.slice av107x nv107x pv107x), (.slice av107y nv107y pv107y), (.bool false)] rfl rfl hk_ size_pt (by intro v_ hv_; simp only [List.mem_cons, List.not_mem_nil, or_false] at hv_; rcases hv_ with rfl | rfl | rfl <;> first | rfl | exact c107x.one_cell | exact c107y.one_cell) rfl ?_)
    intro w22 hn_ hgr_
    have hk17 := hn_
    have hb := hbA_.grown hgr_ hbA_.size (by intro k_ hk_; cases hk_; exact HGE_.out)
    clear hn_ hgr_ hk_ hbA_ HGE_
    replace hB := hB.trans (hb.mono hB.size)
    replace c31x := c31x.below hb
    replace c31y := c31y.below hb
    replace hk7 := hk7.keep hb
    replace c36x := c36x.below hb
    replace c36y := c36y.below hb
    replace hk9 := hk9.keep hb
    replace c41x := c41x.below hb
    replace c41y := c41y.below hb
    replace hk11 := hk11.keep hb
    replace c95x := c95x.below hb
    replace c95y := c95y.below hb
    replace hk13 := hk13.keep hb
    replace c101x := c101x.below hb
    replace c101y := c101y.below hb
    replace hk15 := hk15.keep hb
    replace c107x := c107x.below hb
    replace c107y := c107y.below hb
    clear hb
    obtain ⟨S3, hS3⟩ : ∃ s, s = eAdd S1 R := ⟨_, rfl⟩
    have OS3 : Hid (OnC S3) := Lib.hid (by rw [hS3]; exact eAdd_on OS1.out OR.out)
    have h_ := add_ok ⟨_, _, rfl, c95x.num, c95y.num⟩ ⟨_, _, rfl, c41x.num, c41y.num⟩ OS1.out OR.out (tP.below hB) (tD.below hB)
    rw [← hS3] at h_
    have HS3 := Lib.hid hS3
    clear hS3
    go_wp2_with (first | refine wpList_load_agg rfl 29 _ rfl g13 rfl _ [(.slice av95x nv95x pv95x), (.slice av95y nv95y pv95y), (.bool false)] _ hk13 Tryd.underlying29 rfl size_pt ?_ | refine wpList_load_agg rfl 29 _ rfl g11 rfl _ [(.slice av41x nv41x pv41x), (.slice av41y nv41y pv41y), (.bool false)] _ hk11 Tryd.underlying29 rfl size_pt ?_)
    refine (h_).mono ?_; rintro e_ w23 ⟨v113, rfl, hn, hb⟩
    obtain ⟨v113x, v113y, rfl, h1_, h2_, _⟩ := hn
    have c113x := h1_.fp
    have c113y := h2_.fp
    obtain ⟨av113x, nv113x, pv113x, rfl⟩ := c113x.sliced
    obtain ⟨av113y, nv113y, pv113y, rfl⟩ := c113y.sliced
    clear h1_ h2_
    replace hB := hB.trans (hb.mono hB.size)
    replace c31x := c31x.below hb
    replace c31y := c31y.below hb
    replace hk7 := hk7.keep hb
    replace c36x := c36x.below hb
    replace c36y := c36y.below hb
    replace hk9 := hk9.keep hb
    replace c41x := c41x.below hb
    replace c41y := c41y.below hb
    replace hk11 := hk11.keep hb
    replace c95x := c95x.below hb
    replace c95y := c95y.below hb
    replace hk13 := hk13.keep hb
    replace c101x := c101x.below hb
    replace c101y := c101y.below hb
    replace hk15 := hk15.keep hb
    replace c107x := c107x.below hb
    replace c107y := c107y.below hb
    replace hk17 := hk17.keep hb
    clear hb h_
    go_wp2_with (refine wpList_alloc_agg rfl 29 rfl [(.slice none 0 0), (.slice none 0 0), (.bool false)] 3 (by kernel_rfl) ?_)
    intro w24 hk_ hbA_
    obtain ⟨g19, hg_⟩ : ∃ g, g = w23.heap.size := ⟨_, rfl⟩
    rw [← hg_] at hk_ ⊢
    have HGE_ : Hid (w23.heap.size ≤ g19) := Lib.hid (by rw [hg_]; exact Nat.le_refl _)
    clear hg_
    go_wp2_with (refine wpList_store_agg rfl 29 _ _ rfl g19 29 [(.slice none 0 0), (.slice none 0 0), (.bool false)] [(.slice av113x nv113x pv113x), (.slice av113y nv113y pv113y), (.bool false)] rfl rfl hk_ size_pt (by intro v_ hv_; simp only [List.mem_cons, List.not_mem_nil, or_false] at hv_; rcases hv_ with rfl | rfl | rfl <;> first | rfl | exact c113x.one_cell | exact c113y.one_cell) rfl ?_)
    intro w25 hn_ hgr_
    have hk19 := hn_
    have hb := hbA_.grown hgr_ hbA_.size (by intro k_ hk_; cases hk_; exact HGE_.out)
    clear hn_ hgr_ hk_ hbA_ HGE_
    replace hB := hB.trans (hb.mono hB.size)
    replace c31x := c31x.below hb
    replace c31y := c31y.below hb
    replace hk7 := hk7.keep hb
    replace c36x := c36x.below hb
    replace c36y := c36y.below hb
    replace hk9 := hk9.keep hb
    replace c41x := c41x.below hb
    replace c41y := c41y.below hb
    replace hk11 := hk11.keep hb
    replace c95x := c95x.below hb
    replace c95y := c95y.below hb
    replace hk13 := hk13.keep hb
    replace c101x := c101x.below hb
    replace c101y := c101y.below hb
    replace hk15 := hk15.keep hb
    replace c107x := c107x.below hb
    replace c107y := c107y.below hb
    replace hk17 := hk17.keep hb
    replace c113x := c113x.below hb
    replace c113y := c113y.below hb
    clear hb
    have h_ := add_ok ⟨_, _, rfl, c31x.num, c31y.num⟩ ⟨_, _, rfl, c107x.num, c107y.num⟩ OP.out OS2.out (tP.below hB) (tD.below hB)
    rw [show eAdd P S2 = S3 from by rw [HS2.out, HS3.out, HS1.out, eAdd_assoc OP.out OQ.out OR.out]] at h_
    go_wp2_with (first | refine wpList_load_agg rfl 29 _ rfl g7 rfl _ [(.slice av31x nv31x pv31x), (.slice av31y nv31y pv31y), (.bool false)] _ hk7 Tryd.underlying29 rfl size_pt ?_ | refine wpList_load_agg rfl 29 _ rfl g17 rfl _ [(.slice av107x nv107x pv107x), (.slice av107y nv107y pv107y), (.bool false)] _ hk17 Tryd.underlying29 rfl size_pt ?_)
    refine (h_).mono ?_; rintro e_ w26 ⟨v119, rfl, hn, hb⟩
    obtain ⟨v119x, v119y, rfl, h1_, h2_, _⟩ := hn
    have c119x := h1_.fp
    have c119y := h2_.fp
    obtain ⟨av119x, nv119x, pv119x, rfl⟩ := c119x.sliced
    obtain ⟨av119y, nv119y, pv119y, rfl⟩ := c119y.sliced
    clear h1_ h2_
    replace hB := hB.trans (hb.mono hB.size)
    replace c31x := c31x.below hb
    replace c31y := c31y.below hb
    replace hk7 := hk7.keep hb
    replace c36x := c36x.below hb
    replace c36y := c36y.below hb
    replace hk9 := hk9.keep hb
    replace c41x := c41x.below hb
    replace c41y := c41y.below hb
    replace hk11 := hk11.keep hb
    replace c95x := c95x.below hb
    replace c95y := c95y.below hb
    replace hk13 := hk13.keep hb
    replace c101x := c101x.below hb
    replace c101y := c101y.below hb
    replace hk15 := hk15.keep hb
    replace c107x := c107x.below hb
    replace c107y := c107y.below hb
    replace hk17 := hk17.keep hb
    replace c113x := c113x.below hb
    replace c113y := c113y.below hb
    replace hk19 := hk19.keep hb
    clear hb h_
    go_wp2_with (refine wpList_alloc_agg rfl 29 rfl [(.slice none 0 0), (.slice none 0 0), (.bool false)] 3 (by kernel_rfl) ?_)
    intro w27 hk_ hbA_
    obtain ⟨g21, hg_⟩ : ∃ g, g = w26.heap.size := ⟨_, rfl⟩
    rw [← hg_] at hk_ ⊢
    have HGE_ : Hid (w26.heap.size ≤ g21) := Lib.hid (by rw [hg_]; exact Nat.le_refl _)
    clear hg_
    go_wp2_with (refine wpList_store_agg rfl 29 _ _ rfl g21 29 [(.slice none 0 0), (.slice none 0 0), (.bool false)] [(.slice av119x nv119x pv119x), (.slice av119y nv119y pv119y), (.bool false)] rfl rfl hk_ size_pt (by intro v_ hv_; simp only [List.mem_cons, List.not_mem_nil, or_false] at hv_; rcases hv_ with rfl | rfl | rfl <;> first | rfl | exact c119x.one_cell | exact c119y.one_cell) rfl ?_)
    intro w28 hn_ hgr_
    have hk21 := hn_
    have hb := hbA_.grown hgr_ hbA_.size (by intro k_ hk_; cases hk_; exact HGE_.out)
    clear hn_ hgr_ hk_ hbA_ HGE_
    replace hB := hB.trans (hb.mono hB.size)
    replace c31x := c31x.below hb
    replace c31y := c31y.below hb
    replace hk7 := hk7.keep hb
    replace c36x := c36x.below hb
    replace c36y := c36y.below hb
    replace hk9 := hk9.keep hb
    replace c41x := c41x.below hb
    replace c41y := c41y.below hb
    replace hk11 := hk11.keep hb
    replace c95x := c95x.below hb
    replace c95y := c95y.below hb
    replace hk13 := hk13.keep hb
    replace c101x := c101x.below hb
    replace c101y := c101y.below hb
    replace hk15 := hk15.keep hb
    replace c107x := c107x.below hb
    replace c107y := c107y.below hb
    replace hk17 := hk17.keep hb
    replace c113x := c113x.below hb
    replace c113y := c113y.below hb
    replace hk19 := hk19.keep hb
    replace c119x := c119x.below hb
    replace c119y := c119y.below hb
    clear hb
    have hR := Below.refl w28.heap.size w28
    go_upto_region 15 with fail
    go_cut [23, 24] (fun p q wx => q = Value.int .i64 0 ∧ PtVar w28 (P) p wx)
    case first =>
     clear c36x
     clear c36y
     clear hk9
     clear c41x
     clear c41y
     clear hk11
     clear c95x
     clear c95y
     clear hk13
     clear c101x
     clear c101y
     clear hk15
     clear c107x
     clear c107y
     clear hk17
     clear c113x
     clear c113y
     clear hk19
     clear c119x
     clear c119y
     clear hk21
     go_wp2_with fail
     refine wp_region_held_drew (S := fun W_ => Rw W_ g7 29 [(.slice av31x nv31x pv31x), (.slice av31y nv31y pv31y), (.bool false)]) (by kernel_rfl) (hk7) (fun hS => ?_)
     have hb := below_drewN (Below.refl w28.heap.size w28) 1
     obtain ⟨w29, hw_⟩ : ∃ x, x = World.drew w28 := ⟨_, rfl⟩
     rw [show World.drewN w28 1 = w29 from hw_.symm] at hb
     rw [← hw_] at hS ⊢
     clear hw_
     replace hB := hB.trans (hb.mono hB.size)
     replace c31x := c31x.below hb
     replace c31y := c31y.below hb
     replace hk7 := hk7.keep hb
     replace hR := hR.trans (hb.mono hR.size)
     clear hb
     refine wpAnyH_take (i := 0) (v := .agg #[(.slice av31x nv31x pv31x), (.slice av31y nv31y pv31y), (.bool false)]) rfl (by kernel_rfl) (by kernel_rfl) (by kernel_rfl) (fun _ _ _ h => h) (yieldsIf_load_mid (by rfl) 29 _ rfl g7 0 rfl [(.slice av31x nv31x pv31x), (.slice av31y nv31y pv31y), (.bool false)] _ (fun W_ hW_ => Rw.range hW_ 0 _ fun j_ v_ hv_ => by rwa [Nat.zero_add]) Tryd.underlying29 rfl size_pt) hS ?_
     simp only [List.getElem_toArray, List.getElem_cons_zero, List.getElem_cons_succ, Act.put, List.setIfInBounds_toArray, List.set_cons_zero, List.set_cons_succ]
     refine wpAnyH_ready (rs := [1, 6]) (by kernel_rfl) (by simp) ?_
     refine AllReadyH.cons rfl (fun K hK => ?_) (AllReadyH.cons rfl (fun K hK => ?_) AllReadyH.nil) <;> rw [if_pos (by rfl)] <;> simp only [List.getElem_toArray, List.getElem_cons_zero, List.getElem_cons_succ]
     ·
      go_simp
      refine (zero_c w29).mono ?_; rintro e_ w30 ⟨v124, rfl, hp_, hb⟩
      dsimp only
      obtain ⟨z124x, z124y, rfl, c124x, c124y⟩ := hp_
      replace hB := hB.trans (hb.mono hB.size)
      replace c31x := c31x.below hb
      replace c31y := c31y.below hb
      replace hk7 := hk7.keep hb
      replace hR := hR.trans (hb.mono hR.size)
      clear hb
      refine hK.out _ _ hk7 (fun hS => ?_)
      refine wpAnyH_ready (rs := [2, 6]) (by kernel_rfl) (by simp) ?_
      refine AllReadyH.cons rfl (fun K hK => ?_) (AllReadyH.cons rfl (fun K hK => ?_) AllReadyH.nil) <;> rw [if_pos (by rfl)] <;> simp only [List.getElem_toArray, List.getElem_cons_zero, List.getElem_cons_succ]
      ·
       have h_ := add_ok ⟨_, _, rfl, c31x.num, c31y.num⟩ ⟨_, _, rfl, c124x.num, c124y.num⟩ OP.out eO_on (tP.below hB) (tD.below hB)
       rw [eAdd_zero OP.out] at h_
       go_simp
       refine (h_).mono ?_; rintro e_ w31 ⟨v125, rfl, hn, hb⟩
       dsimp only
       obtain ⟨v125x, v125y, rfl, h1_, h2_, _⟩ := hn
       have off_c125x_7 := NatRes.off_new h1_ hk7.lt
       have off_c125y_7 := NatRes.off_new h2_ hk7.lt
       have c125x := h1_.mono (Nat.zero_le _)
       have c125y := h2_.mono (Nat.zero_le _)
       obtain ⟨av125x, nv125x, pv125x, rfl⟩ := c125x.fp.sliced
       obtain ⟨av125y, nv125y, pv125y, rfl⟩ := c125y.fp.sliced
       clear h1_ h2_
       replace hB := hB.trans (hb.mono hB.size)
       replace c31x := c31x.below hb
       replace c31y := c31y.below hb
       replace hk7 := hk7.keep hb
       replace hR := hR.trans (hb.mono hR.size)
       replace c124x := c124x.below hb
       replace c124y := c124y.below hb
       clear hb h_
       refine hK.out _ _ hk7 (fun hS => ?_)
       refine wpAnyH_take (i := 3) (v := ?_) rfl (by kernel_rfl) (by kernel_rfl) (by kernel_rfl) (fun _ _ _ h => h) (Or.inl ⟨by rfl, ?_⟩) hS ?_
       rotate_left
       · intro w _; go_simp; try with_reducible rfl
       simp only [List.getElem_toArray, List.getElem_cons_zero, List.getElem_cons_succ, Act.put, List.setIfInBounds_toArray, List.set_cons_zero, List.set_cons_succ]
       refine wpAnyH_take (i := 4) (v := ?_) rfl (by kernel_rfl) (by kernel_rfl) (by kernel_rfl) (fun _ _ _ h => h) (Or.inl ⟨by rfl, ?_⟩) hS ?_
       rotate_left
       · intro w _; go_simp; try with_reducible rfl
       simp only [List.getElem_toArray, List.getElem_cons_zero, List.getElem_cons_succ, Act.put, List.setIfInBounds_toArray, List.set_cons_zero, List.set_cons_succ]
       refine wpAnyH_take (i := 5) (v := ?_) rfl (by kernel_rfl) (by kernel_rfl) (by kernel_rfl) (fun _ _ _ h => h) (Or.inl ⟨by rfl, ?_⟩) hS ?_
       rotate_left
       · intro w _; go_simp; try with_reducible rfl
       simp only [List.getElem_toArray, List.getElem_cons_zero, List.getElem_cons_succ, Act.put, List.setIfInBounds_toArray, List.set_cons_zero, List.set_cons_succ]
       refine wpAnyH_ready (rs := [6]) (by kernel_rfl) (by simp) ?_
       refine AllReadyH.cons rfl (fun K hK => ?_) AllReadyH.nil
       rw [if_pos (by rfl)]
       simp only [List.getElem_toArray, List.getElem_cons_zero, List.getElem_cons_succ]
       refine wp_alloc_agg 29 rfl [(.slice none 0 0), (.slice none 0 0), (.bool false)] 3 (by kernel_rfl) ?_
       intro w32 hk23 hb
       have hz_ := hB.size
       have hR0_ := hR.size
       have lt7_ := hk7.lt
       have off_c125x_23 := NatRes.off_old c125x
       have off_c125y_23 := NatRes.off_old c125y
       replace hB := hB.trans (hb.mono hB.size)
       replace c31x := c31x.below hb
       replace c31y := c31y.below hb
       replace hk7 := hk7.keep hb
       replace hR := hR.trans (hb.mono hR.size)
       replace c124x := c124x.below hb
       replace c124y := c124y.below hb
       replace c125x := c125x.below hb
       replace c125y := c125y.below hb
       clear hb
       obtain ⟨g23, hg_⟩ : ∃ g, g = w31.heap.size := ⟨_, rfl⟩
       rw [← hg_] at hk23 off_c125x_23 off_c125y_23 ⊢
       have HG23 : Hid (w.heap.size ≤ g23) := Lib.hid (by rw [hg_]; exact hz_)
       have NE7_23 : Hid (g7 ≠ g23) := Lib.hid (by rw [hg_]; exact Nat.ne_of_lt lt7_)
       have HR_ : Hid (w28.heap.size ≤ g23) := Lib.hid (by rw [hg_]; exact hR0_)
       clear hR0_
       clear hg_ hz_ lt7_
       refine hK.out _ _ hk7 (fun hS => ?_)
       refine wpAnyH_ready (rs := [7]) (by kernel_rfl) (by simp) ?_
       refine AllReadyH.cons rfl (fun K hK => ?_) AllReadyH.nil
       rw [if_pos (by rfl)]
       simp only [List.getElem_toArray, List.getElem_cons_zero, List.getElem_cons_succ]
       refine wp_store_agg 29 _ _ rfl g23 29 [(.slice none 0 0), (.slice none 0 0), (.bool false)] [(.slice av125x nv125x pv125x), (.slice av125y nv125y pv125y), (.bool false)] rfl rfl hk23 size_pt (by intro v_ hv_; simp only [List.mem_cons, List.not_mem_nil, or_false] at hv_; rcases hv_ with rfl | rfl | rfl <;> first | rfl | exact c125x.fp.one_cell | exact c125y.fp.one_cell) rfl ?_
       intro w33 hn hg
       replace hB := hB.grown hg hB.size (by intro k_ hk_; cases hk_; exact HG23.out)
       clear c31x
       clear c31y
       replace hk7 := hk7.grown hg (fun e_ => NE7_23.out (Option.some.inj e_))
       replace hR := hR.grown hg hR.size (by intro k_ hk_; cases hk_; exact HR_.out)
       clear c124x
       clear c124y
       replace c125x := c125x.off off_c125x_23 hg
       replace c125y := c125y.off off_c125y_23 hg
       replace hk23 := hn
       clear hn hg
       refine hK.out _ _ hk7 (fun hS => ?_)
       refine wpAnyH_take (i := 8) (v := ?_) rfl (by kernel_rfl) (by kernel_rfl) (by kernel_rfl) (fun _ _ _ h => h) (Or.inl ⟨by rfl, ?_⟩) hS ?_
       rotate_left
       · intro w _; go_simp; try with_reducible rfl
       simp only [List.getElem_toArray, List.getElem_cons_zero, List.getElem_cons_succ, Act.put, List.setIfInBounds_toArray, List.set_cons_zero, List.set_cons_succ]
       refine wpAnyH_done (by kernel_rfl) ?_ _
       clear hS
       go_wp2_with fail
       go_meet
       exact ⟨rfl, _, _, _, rfl, hk23, c125x.fp, c125y.fp, HR_.out, hR⟩
      ·
       refine wp_alloc_agg 29 rfl [(.slice none 0 0), (.slice none 0 0), (.bool false)] 3 (by kernel_rfl) ?_
       intro w31 hk23 hb
       have hz_ := hB.size
       have hR0_ := hR.size
       have lt7_ := hk7.lt
       replace hB := hB.trans (hb.mono hB.size)
       replace c31x := c31x.below hb
       replace c31y := c31y.below hb
       replace hk7 := hk7.keep hb
       replace hR := hR.trans (hb.mono hR.size)
       replace c124x := c124x.below hb
       replace c124y := c124y.below hb
       clear hb
       obtain ⟨g23, hg_⟩ : ∃ g, g = w30.heap.size := ⟨_, rfl⟩
       rw [← hg_] at hk23 ⊢
       have HG23 : Hid (w.heap.size ≤ g23) := Lib.hid (by rw [hg_]; exact hz_)
       have NE7_23 : Hid (g7 ≠ g23) := Lib.hid (by rw [hg_]; exact Nat.ne_of_lt lt7_)
       have HR_ : Hid (w28.heap.size ≤ g23) := Lib.hid (by rw [hg_]; exact hR0_)
       clear hR0_
       clear hg_ hz_ lt7_
       refine hK.out _ _ hk7 (fun hS => ?_)
       have h_ := add_ok ⟨_, _, rfl, c31x.num, c31y.num⟩ ⟨_, _, rfl, c124x.num, c124y.num⟩ OP.out eO_on (tP.below hB) (tD.below hB)
       rw [eAdd_zero OP.out] at h_
       refine wpAnyH_ready (rs := [2]) (by kernel_rfl) (by simp) ?_
       refine AllReadyH.cons rfl (fun K hK => ?_) AllReadyH.nil
       rw [if_pos (by rfl)]
       simp only [List.getElem_toArray, List.getElem_cons_zero, List.getElem_cons_succ]
       go_simp
       refine (h_).mono ?_; rintro e_ w32 ⟨v125, rfl, hn, hb⟩
       dsimp only
       obtain ⟨v125x, v125y, rfl, h1_, h2_, _⟩ := hn
       have off_c125x_7 := NatRes.off_new h1_ hk7.lt
       have off_c125x_23 := NatRes.off_new h1_ hk23.lt
       have off_c125y_7 := NatRes.off_new h2_ hk7.lt
       have off_c125y_23 := NatRes.off_new h2_ hk23.lt
       have c125x := h1_.mono (Nat.zero_le _)
       have c125y := h2_.mono (Nat.zero_le _)
       obtain ⟨av125x, nv125x, pv125x, rfl⟩ := c125x.fp.sliced
       obtain ⟨av125y, nv125y, pv125y, rfl⟩ := c125y.fp.sliced
       clear h1_ h2_
       replace hB := hB.trans (hb.mono hB.size)
       replace c31x := c31x.below hb
       replace c31y := c31y.below hb
       replace hk7 := hk7.keep hb
       replace hR := hR.trans (hb.mono hR.size)
       replace c124x := c124x.below hb
       replace c124y := c124y.below hb
       replace hk23 := hk23.keep hb
       clear hb h_
       refine hK.out _ _ hk7 (fun hS => ?_)
       refine wpAnyH_take (i := 3) (v := ?_) rfl (by kernel_rfl) (by kernel_rfl) (by kernel_rfl) (fun _ _ _ h => h) (Or.inl ⟨by rfl, ?_⟩) hS ?_
       rotate_left
       · intro w _; go_simp; try with_reducible rfl
       simp only [List.getElem_toArray, List.getElem_cons_zero, List.getElem_cons_succ, Act.put, List.setIfInBounds_toArray, List.set_cons_zero, List.set_cons_succ]
       refine wpAnyH_take (i := 4) (v := ?_) rfl (by kernel_rfl) (by kernel_rfl) (by kernel_rfl) (fun _ _ _ h => h) (Or.inl ⟨by rfl, ?_⟩) hS ?_
       rotate_left
       · intro w _; go_simp; try with_reducible rfl
       simp only [List.getElem_toArray, List.getElem_cons_zero, List.getElem_cons_succ, Act.put, List.setIfInBounds_toArray, List.set_cons_zero, List.set_cons_succ]
       refine wpAnyH_take (i := 5) (v := ?_) rfl (by kernel_rfl) (by kernel_rfl) (by kernel_rfl) (fun _ _ _ h => h) (Or.inl ⟨by rfl, ?_⟩) hS ?_
       rotate_left
       · intro w _; go_simp; try with_reducible rfl
       simp only [List.getElem_toArray, List.getElem_cons_zero, List.getElem_cons_succ, Act.put, List.setIfInBounds_toArray, List.set_cons_zero, List.set_cons_succ]
       refine wpAnyH_ready (rs := [7]) (by kernel_rfl) (by simp) ?_
       refine AllReadyH.cons rfl (fun K hK => ?_) AllReadyH.nil
       rw [if_pos (by rfl)]
       simp only [List.getElem_toArray, List.getElem_cons_zero, List.getElem_cons_succ]
       refine wp_store_agg 29 _ _ rfl g23 29 [(.slice none 0 0), (.slice none 0 0), (.bool false)] [(.slice av125x nv125x pv125x), (.slice av125y nv125y pv125y), (.bool false)] rfl rfl hk23 size_pt (by intro v_ hv_; simp only [List.mem_cons, List.not_mem_nil, or_false] at hv_; rcases hv_ with rfl | rfl | rfl <;> first | rfl | exact c125x.fp.one_cell | exact c125y.fp.one_cell) rfl ?_
       intro w33 hn hg
       replace hB := hB.grown hg hB.size (by intro k_ hk_; cases hk_; exact HG23.out)
       clear c31x
       clear c31y
       replace hk7 := hk7.grown hg (fun e_ => NE7_23.out (Option.some.inj e_))
       replace hR := hR.grown hg hR.size (by intro k_ hk_; cases hk_; exact HR_.out)
       clear c124x
       clear c124y
       replace hk23 := hn
       replace c125x := c125x.off off_c125x_23 hg
       replace c125y := c125y.off off_c125y_23 hg
       clear hn hg
       refine hK.out _ _ hk7 (fun hS => ?_)
       refine wpAnyH_take (i := 8) (v := ?_) rfl (by kernel_rfl) (by kernel_rfl) (by kernel_rfl) (fun _ _ _ h => h) (Or.inl ⟨by rfl, ?_⟩) hS ?_
       rotate_left
       · intro w _; go_simp; try with_reducible rfl
       simp only [List.getElem_toArray, List.getElem_cons_zero, List.getElem_cons_succ, Act.put, List.setIfInBounds_toArray, List.set_cons_zero, List.set_cons_succ]
       refine wpAnyH_done (by kernel_rfl) ?_ _
       clear hS
       go_wp2_with fail
       go_meet
       exact ⟨rfl, _, _, _, rfl, hk23, c125x.fp, c125y.fp, HR_.out, hR⟩
     ·
      refine wp_alloc_agg 29 rfl [(.slice none 0 0), (.slice none 0 0), (.bool false)] 3 (by kernel_rfl) ?_
      intro w30 hk23 hb
      have hz_ := hB.size
      have hR0_ := hR.size
      have lt7_ := hk7.lt
      replace hB := hB.trans (hb.mono hB.size)
      replace c31x := c31x.below hb
      replace c31y := c31y.below hb
      replace hk7 := hk7.keep hb
      replace hR := hR.trans (hb.mono hR.size)
      clear hb
      obtain ⟨g23, hg_⟩ : ∃ g, g = w29.heap.size := ⟨_, rfl⟩
      rw [← hg_] at hk23 ⊢
      have HG23 : Hid (w.heap.size ≤ g23) := Lib.hid (by rw [hg_]; exact hz_)
      have NE7_23 : Hid (g7 ≠ g23) := Lib.hid (by rw [hg_]; exact Nat.ne_of_lt lt7_)
      have HR_ : Hid (w28.heap.size ≤ g23) := Lib.hid (by rw [hg_]; exact hR0_)
      clear hR0_
      clear hg_ hz_ lt7_
      refine hK.out _ _ hk7 (fun hS => ?_)
      refine wpAnyH_ready (rs := [1]) (by kernel_rfl) (by simp) ?_
      refine AllReadyH.cons rfl (fun K hK => ?_) AllReadyH.nil
      rw [if_pos (by rfl)]
      simp only [List.getElem_toArray, List.getElem_cons_zero, List.getElem_cons_succ]
      go_simp
      refine (zero_c w30).mono ?_; rintro e_ w31 ⟨v124, rfl, hp_, hb⟩
      dsimp only
      obtain ⟨z124x, z124y, rfl, c124x, c124y⟩ := hp_
      replace hB := hB.trans (hb.mono hB.size)
      replace c31x := c31x.below hb
      replace c31y := c31y.below hb
      replace hk7 := hk7.keep hb
      replace hR := hR.trans (hb.mono hR.size)
      replace hk23 := hk23.keep hb
      clear hb
      refine hK.out _ _ hk7 (fun hS => ?_)
      have h_ := add_ok ⟨_, _, rfl, c31x.num, c31y.num⟩ ⟨_, _, rfl, c124x.num, c124y.num⟩ OP.out eO_on (tP.below hB) (tD.below hB)
      rw [eAdd_zero OP.out] at h_
      refine wpAnyH_ready (rs := [2]) (by kernel_rfl) (by simp) ?_
      refine AllReadyH.cons rfl (fun K hK => ?_) AllReadyH.nil
      rw [if_pos (by rfl)]
      simp only [List.getElem_toArray, List.getElem_cons_zero, List.getElem_cons_succ]
      go_simp
      refine (h_).mono ?_; rintro e_ w32 ⟨v125, rfl, hn, hb⟩
      dsimp only
      obtain ⟨v125x, v125y, rfl, h1_, h2_, _⟩ := hn
      have off_c125x_7 := NatRes.off_new h1_ hk7.lt
      have off_c125x_23 := NatRes.off_new h1_ hk23.lt
      have off_c125y_7 := NatRes.off_new h2_ hk7.lt
      have off_c125y_23 := NatRes.off_new h2_ hk23.lt
      have c125x := h1_.mono (Nat.zero_le _)
      have c125y := h2_.mono (Nat.zero_le _)
      obtain ⟨av125x, nv125x, pv125x, rfl⟩ := c125x.fp.sliced
      obtain ⟨av125y, nv125y, pv125y, rfl⟩ := c125y.fp.sliced
      clear h1_ h2_
      replace hB := hB.trans (hb.mono hB.size)
      replace c31x := c31x.below hb
      replace c31y := c31y.below hb
      replace hk7 := hk7.keep hb
      replace hR := hR.trans (hb.mono hR.size)
      replace hk23 := hk23.keep hb
      replace c124x := c124x.below hb
      replace c124y := c124y.below hb
      clear hb h_
      refine hK.out _ _ hk7 (fun hS => ?_)
      refine wpAnyH_take (i := 3) (v := ?_) rfl (by kernel_rfl) (by kernel_rfl) (by kernel_rfl) (fun _ _ _ h => h) (Or.inl ⟨by rfl, ?_⟩) hS ?_
      rotate_left
      · intro w _; go_simp; try with_reducible rfl
      simp only [List.getElem_toArray, List.getElem_cons_zero, List.getElem_cons_succ, Act.put, List.setIfInBounds_toArray, List.set_cons_zero, List.set_cons_succ]
      refine wpAnyH_take (i := 4) (v := ?_) rfl (by kernel_rfl) (by kernel_rfl) (by kernel_rfl) (fun _ _ _ h => h) (Or.inl ⟨by rfl, ?_⟩) hS ?_
      rotate_left
      · intro w _; go_simp; try with_reducible rfl
      simp only [List.getElem_toArray, List.getElem_cons_zero, List.getElem_cons_succ, Act.put, List.setIfInBounds_toArray, List.set_cons_zero, List.set_cons_succ]
      refine wpAnyH_take (i := 5) (v := ?_) rfl (by kernel_rfl) (by kernel_rfl) (by kernel_rfl) (fun _ _ _ h => h) (Or.inl ⟨by rfl, ?_⟩) hS ?_
      rotate_left
      · intro w _; go_simp; try with_reducible rfl
      simp only [List.getElem_toArray, List.getElem_cons_zero, List.getElem_cons_succ, Act.put, List.setIfInBounds_toArray, List.set_cons_zero, List.set_cons_succ]
      refine wpAnyH_ready (rs := [7]) (by kernel_rfl) (by simp) ?_
      refine AllReadyH.cons rfl (fun K hK => ?_) AllReadyH.nil
      rw [if_pos (by rfl)]
      simp only [List.getElem_toArray, List.getElem_cons_zero, List.getElem_cons_succ]
      refine wp_store_agg 29 _ _ rfl g23 29 [(.slice none 0 0), (.slice none 0 0), (.bool false)] [(.slice av125x nv125x pv125x), (.slice av125y nv125y pv125y), (.bool false)] rfl rfl hk23 size_pt (by intro v_ hv_; simp only [List.mem_cons, List.not_mem_nil, or_false] at hv_; rcases hv_ with rfl | rfl | rfl <;> first | rfl | exact c125x.fp.one_cell | exact c125y.fp.one_cell) rfl ?_
      intro w33 hn hg
      replace hB := hB.grown hg hB.size (by intro k_ hk_; cases hk_; exact HG23.out)
      clear c31x
      clear c31y
      replace hk7 := hk7.grown hg (fun e_ => NE7_23.out (Option.some.inj e_))
      replace hR := hR.grown hg hR.size (by intro k_ hk_; cases hk_; exact HR_.out)
      replace hk23 := hn
      clear c124x
      clear c124y
      replace c125x := c125x.off off_c125x_23 hg
      replace c125y := c125y.off off_c125y_23 hg
      clear hn hg
      refine hK.out _ _ hk7 (fun hS => ?_)
      refine wpAnyH_take (i := 8) (v := ?_) rfl (by kernel_rfl) (by kernel_rfl) (by kernel_rfl) (fun _ _ _ h => h) (Or.inl ⟨by rfl, ?_⟩) hS ?_
      rotate_left
      · intro w _; go_simp; try with_reducible rfl
      simp only [List.getElem_toArray, List.getElem_cons_zero, List.getElem_cons_succ, Act.put, List.setIfInBounds_toArray, List.set_cons_zero, List.set_cons_succ]
      refine wpAnyH_done (by kernel_rfl) ?_ _
      clear hS
      go_wp2_with fail
      go_meet
      exact ⟨rfl, _, _, _, rfl, hk23, c125x.fp, c125y.fp, HR_.out, hR⟩
    case rest =>
     obtain ⟨rfl, g23, v23x, v23y, rfl, hk23, c23x, c23y, hgx_, hb⟩ := hcut
     obtain ⟨w29, rfl⟩ : ∃ x, x = wc := ⟨_, rfl⟩
     replace hB := hB.trans (hb.mono hB.size)
     replace c31x := c31x.below hb
     replace c31y := c31y.below hb
     replace hk7 := hk7.keep hb
     replace c36x := c36x.below hb
     replace c36y := c36y.below hb
     replace hk9 := hk9.keep hb
     replace c41x := c41x.below hb
     replace c41y := c41y.below hb
     replace hk11 := hk11.keep hb
     replace c95x := c95x.below hb
     replace c95y := c95y.below hb
     replace hk13 := hk13.keep hb
     replace c101x := c101x.below hb
     replace c101y := c101y.below hb
     replace hk15 := hk15.keep hb
     replace c107x := c107x.below hb
     replace c107y := c107y.below hb
     replace hk17 := hk17.keep hb
     replace c113x := c113x.below hb
     replace c113y := c113y.below hb
     replace hk19 := hk19.keep hb
     replace c119x := c119x.below hb
     replace c119y := c119y.below hb
     replace hk21 := hk21.keep hb
     clear hb hgx_ hR
     have hR := Below.refl w29.heap.size w29
     go_upto_region 16 with fail
     go_cut [25, 26] (fun p q wx => q = Value.int .i64 0 ∧ PtVar w29 (eO) p wx)
     case first =>
      clear c36x
      clear c36y
      clear hk9
      clear c41x
      clear c41y
      clear hk11
      clear c95x
      clear c95y
      clear hk13
      clear c101x
      clear c101y
      clear hk15
      clear c107x
      clear c107y
      clear hk17
      clear c113x
      clear c113y
      clear hk19
      clear c119x
      clear c119y
      clear hk21
      clear hk23
      clear c23x
      clear c23y
      go_wp2_with fail
      refine wp_region_held_drew (S := fun W_ => Rw W_ g7 29 [(.slice av31x nv31x pv31x), (.slice av31y nv31y pv31y), (.bool false)]) (by kernel_rfl) (hk7) (fun hS => ?_)
      have hb := below_drewN (Below.refl w29.heap.size w29) 1
      obtain ⟨w30, hw_⟩ : ∃ x, x = World.drew w29 := ⟨_, rfl⟩
      rw [show World.drewN w29 1 = w30 from hw_.symm] at hb
      rw [← hw_] at hS ⊢
      clear hw_
      replace hB := hB.trans (hb.mono hB.size)
      replace c31x := c31x.below hb
      replace c31y := c31y.below hb
      replace hk7 := hk7.keep hb
      replace hR := hR.trans (hb.mono hR.size)
      clear hb
      refine wpAnyH_take (i := 0) (v := .agg #[(.slice av31x nv31x pv31x), (.slice av31y nv31y pv31y), (.bool false)]) rfl (by kernel_rfl) (by kernel_rfl) (by kernel_rfl) (fun _ _ _ h => h) (yieldsIf_load_mid (by rfl) 29 _ rfl g7 0 rfl [(.slice av31x nv31x pv31x), (.slice av31y nv31y pv31y), (.bool false)] _ (fun W_ hW_ => Rw.range hW_ 0 _ fun j_ v_ hv_ => by rwa [Nat.zero_add]) Tryd.underlying29 rfl size_pt) hS ?_
      simp only [List.getElem_toArray, List.getElem_cons_zero, List.getElem_cons_succ, Act.put, List.setIfInBounds_toArray, List.set_cons_zero, List.set_cons_succ]
      refine wpAnyH_take (i := 1) (v := .agg #[(.slice av31x nv31x pv31x), (.slice av31y nv31y pv31y), (.bool false)]) rfl (by kernel_rfl) (by kernel_rfl) (by kernel_rfl) (fun _ _ _ h => h) (yieldsIf_load_mid (by rfl) 29 _ rfl g7 0 rfl [(.slice av31x nv31x pv31x), (.slice av31y nv31y pv31y), (.bool false)] _ (fun W_ hW_ => Rw.range hW_ 0 _ fun j_ v_ hv_ => by rwa [Nat.zero_add]) Tryd.underlying29 rfl size_pt) hS ?_
      simp only [List.getElem_toArray, List.getElem_cons_zero, List.getElem_cons_succ, Act.put, List.setIfInBounds_toArray, List.set_cons_zero, List.set_cons_succ]
      refine wpAnyH_ready (rs := [2, 7]) (by kernel_rfl) (by simp) ?_
      refine AllReadyH.cons rfl (fun K hK => ?_) (AllReadyH.cons rfl (fun K hK => ?_) AllReadyH.nil) <;> rw [if_pos (by rfl)] <;> simp only [List.getElem_toArray, List.getElem_cons_zero, List.getElem_cons_succ]
      ·
       go_simp
       refine (opposite_c c31x c31y).mono ?_; rintro e_ w31 ⟨v131, rfl, hp_, hb⟩
       dsimp only
       obtain ⟨z131x, z131y, rfl, c131x, c131y⟩ := hp_
       replace hB := hB.trans (hb.mono hB.size)
       replace c31x := c31x.below hb
       replace c31y := c31y.below hb
       replace hk7 := hk7.keep hb
       replace hR := hR.trans (hb.mono hR.size)
       clear hb
       refine hK.out _ _ hk7 (fun hS => ?_)
       refine wpAnyH_ready (rs := [3, 7]) (by kernel_rfl) (by simp) ?_
       refine AllReadyH.cons rfl (fun K hK => ?_) (AllReadyH.cons rfl (fun K hK => ?_) AllReadyH.nil) <;> rw [if_pos (by rfl)] <;> simp only [List.getElem_toArray, List.getElem_cons_zero, List.getElem_cons_succ]
       ·
        have h_ := add_ok ⟨_, _, rfl, c31x.num, c31y.num⟩ ⟨_, _, rfl, c131x.num, c131y.num⟩ OP.out (eNeg_on OP.out) (tP.below hB) (tD.below hB)
        rw [eAdd_neg OP.out] at h_
        go_simp
        refine (h_).mono ?_; rintro e_ w32 ⟨v132, rfl, hn, hb⟩
        dsimp only
        obtain ⟨v132x, v132y, rfl, h1_, h2_, _⟩ := hn
        have off_c132x_7 := NatRes.off_new h1_ hk7.lt
        have off_c132y_7 := NatRes.off_new h2_ hk7.lt
        have c132x := h1_.mono (Nat.zero_le _)
        have c132y := h2_.mono (Nat.zero_le _)
        obtain ⟨av132x, nv132x, pv132x, rfl⟩ := c132x.fp.sliced
        obtain ⟨av132y, nv132y, pv132y, rfl⟩ := c132y.fp.sliced
        clear h1_ h2_
        replace hB := hB.trans (hb.mono hB.size)
        replace c31x := c31x.below hb
        replace c31y := c31y.below hb
        replace hk7 := hk7.keep hb
        replace hR := hR.trans (hb.mono hR.size)
        replace c131x := c131x.below hb
        replace c131y := c131y.below hb
        clear hb h_
        refine hK.out _ _ hk7 (fun hS => ?_)
        refine wpAnyH_take (i := 4) (v := ?_) rfl (by kernel_rfl) (by kernel_rfl) (by kernel_rfl) (fun _ _ _ h => h) (Or.inl ⟨by rfl, ?_⟩) hS ?_
        rotate_left
        · intro w _; go_simp; try with_reducible rfl
        simp only [List.getElem_toArray, List.getElem_cons_zero, List.getElem_cons_succ, Act.put, List.setIfInBounds_toArray, List.set_cons_zero, List.set_cons_succ]
        refine wpAnyH_take (i := 5) (v := ?_) rfl (by kernel_rfl) (by kernel_rfl) (by kernel_rfl) (fun _ _ _ h => h) (Or.inl ⟨by rfl, ?_⟩) hS ?_
        rotate_left
        · intro w _; go_simp; try with_reducible rfl
        simp only [List.getElem_toArray, List.getElem_cons_zero, List.getElem_cons_succ, Act.put, List.setIfInBounds_toArray, List.set_cons_zero, List.set_cons_succ]
        refine wpAnyH_take (i := 6) (v := ?_) rfl (by kernel_rfl) (by kernel_rfl) (by kernel_rfl) (fun _ _ _ h => h) (Or.inl ⟨by rfl, ?_⟩) hS ?_
        rotate_left
        · intro w _; go_simp; try with_reducible rfl
        simp only [List.getElem_toArray, List.getElem_cons_zero, List.getElem_cons_succ, Act.put, List.setIfInBounds_toArray, List.set_cons_zero, List.set_cons_succ]
        refine wpAnyH_ready (rs := [7]) (by kernel_rfl) (by simp) ?_
        refine AllReadyH.cons rfl (fun K hK => ?_) AllReadyH.nil
        rw [if_pos (by rfl)]
        simp only [List.getElem_toArray, List.getElem_cons_zero, List.getElem_cons_succ]
        refine wp_alloc_agg 29 rfl [(.slice none 0 0), (.slice none 0 0), (.bool false)] 3 (by kernel_rfl) ?_
        intro w33 hk25 hb
        have hz_ := hB.size
        have hR0_ := hR.size
        have lt7_ := hk7.lt
        have off_c132x_25 := NatRes.off_old c132x
        have off_c132y_25 := NatRes.off_old c132y
        replace hB := hB.trans (hb.mono hB.size)
        replace c31x := c31x.below hb
        replace c31y := c31y.below hb
        replace hk7 := hk7.keep hb
        replace hR := hR.trans (hb.mono hR.size)
        replace c131x := c131x.below hb
        replace c131y := c131y.below hb
        replace c132x := c132x.below hb
        replace c132y := c132y.below hb
        clear hb
        obtain ⟨g25, hg_⟩ : ∃ g, g = w32.heap.size := ⟨_, rfl⟩
        rw [← hg_] at hk25 off_c132x_25 off_c132y_25 ⊢
        have HG25 : Hid (w.heap.size ≤ g25) := Lib.hid (by rw [hg_]; exact hz_)
        have NE7_25 : Hid (g7 ≠ g25) := Lib.hid (by rw [hg_]; exact Nat.ne_of_lt lt7_)
        have HR_ : Hid (w29.heap.size ≤ g25) := Lib.hid (by rw [hg_]; exact hR0_)
        clear hR0_
        clear hg_ hz_ lt7_
        refine hK.out _ _ hk7 (fun hS => ?_)
        refine wpAnyH_ready (rs := [8]) (by kernel_rfl) (by simp) ?_
        refine AllReadyH.cons rfl (fun K hK => ?_) AllReadyH.nil
        rw [if_pos (by rfl)]
        simp only [List.getElem_toArray, List.getElem_cons_zero, List.getElem_cons_succ]
        refine wp_store_agg 29 _ _ rfl g25 29 [(.slice none 0 0), (.slice none 0 0), (.bool false)] [(.slice av132x nv132x pv132x), (.slice av132y nv132y pv132y), (.bool false)] rfl rfl hk25 size_pt (by intro v_ hv_; simp only [List.mem_cons, List.not_mem_nil, or_false] at hv_; rcases hv_ with rfl | rfl | rfl <;> first | rfl | exact c132x.fp.one_cell | exact c132y.fp.one_cell) rfl ?_
        intro w34 hn hg
        replace hB := hB.grown hg hB.size (by intro k_ hk_; cases hk_; exact HG25.out)
        clear c31x
        clear c31y
        replace hk7 := hk7.grown hg (fun e_ => NE7_25.out (Option.some.inj e_))
        replace hR := hR.grown hg hR.size (by intro k_ hk_; cases hk_; exact HR_.out)
        clear c131x
        clear c131y
        replace c132x := c132x.off off_c132x_25 hg
        replace c132y := c132y.off off_c132y_25 hg
        replace hk25 := hn
        clear hn hg
        refine hK.out _ _ hk7 (fun hS => ?_)
        refine wpAnyH_take (i := 9) (v := ?_) rfl (by kernel_rfl) (by kernel_rfl) (by kernel_rfl) (fun _ _ _ h => h) (Or.inl ⟨by rfl, ?_⟩) hS ?_
        rotate_left
        · intro w _; go_simp; try with_reducible rfl
        simp only [List.getElem_toArray, List.getElem_cons_zero, List.getElem_cons_succ, Act.put, List.setIfInBounds_toArray, List.set_cons_zero, List.set_cons_succ]
        refine wpAnyH_done (by kernel_rfl) ?_ _
        clear hS
        go_wp2_with fail
        go_meet
        exact ⟨rfl, _, _, _, rfl, hk25, c132x.fp, c132y.fp, HR_.out, hR⟩
       ·
        refine wp_alloc_agg 29 rfl [(.slice none 0 0), (.slice none 0 0), (.bool false)] 3 (by kernel_rfl) ?_
        intro w32 hk25 hb
        have hz_ := hB.size
        have hR0_ := hR.size
        have lt7_ := hk7.lt
        replace hB := hB.trans (hb.mono hB.size)
        replace c31x := c31x.below hb
        replace c31y := c31y.below hb
        replace hk7 := hk7.keep hb
        replace hR := hR.trans (hb.mono hR.size)
        replace c131x := c131x.below hb
        replace c131y := c131y.below hb
        clear hb
        obtain ⟨g25, hg_⟩ : ∃ g, g = w31.heap.size := ⟨_, rfl⟩
        rw [← hg_] at hk25 ⊢
        have HG25 : Hid (w.heap.size ≤ g25) := Lib.hid (by rw [hg_]; exact hz_)
        have NE7_25 : Hid (g7 ≠ g25) := Lib.hid (by rw [hg_]; exact Nat.ne_of_lt lt7_)
        have HR_ : Hid (w29.heap.size ≤ g25) := Lib.hid (by rw [hg_]; exact hR0_)
        clear hR0_
        clear hg_ hz_ lt7_
        refine hK.out _ _ hk7 (fun hS => ?_)
        have h_ := add_ok ⟨_, _, rfl, c31x.num, c31y.num⟩ ⟨_, _, rfl, c131x.num, c131y.num⟩ OP.out (eNeg_on OP.out) (tP.below hB) (tD.below hB)
        rw [eAdd_neg OP.out] at h_
        refine wpAnyH_ready (rs := [3]) (by kernel_rfl) (by simp) ?_
        refine AllReadyH.cons rfl (fun K hK => ?_) AllReadyH.nil
        rw [if_pos (by rfl)]
        simp only [List.getElem_toArray, List.getElem_cons_zero, List.getElem_cons_succ]
        go_simp
        refine (h_).mono ?_; rintro e_ w33 ⟨v132, rfl, hn, hb⟩
        dsimp only
        obtain ⟨v132x, v132y, rfl, h1_, h2_, _⟩ := hn
        have off_c132x_7 := NatRes.off_new h1_ hk7.lt
        have off_c132x_25 := NatRes.off_new h1_ hk25.lt
        have off_c132y_7 := NatRes.off_new h2_ hk7.lt
        have off_c132y_25 := NatRes.off_new h2_ hk25.lt
        have c132x := h1_.mono (Nat.zero_le _)
        have c132y := h2_.mono (Nat.zero_le _)
        obtain ⟨av132x, nv132x, pv132x, rfl⟩ := c132x.fp.sliced
        obtain ⟨av132y, nv132y, pv132y, rfl⟩ := c132y.fp.sliced
        clear h1_ h2_
        replace hB := hB.trans (hb.mono hB.size)
        replace c31x := c31x.below hb
        replace c31y := c31y.below hb
        replace hk7 := hk7.keep hb
        replace hR := hR.trans (hb.mono hR.size)
        replace c131x := c131x.below hb
        replace c131y := c131y.below hb
        replace hk25 := hk25.keep hb
        clear hb h_
        refine hK.out _ _ hk7 (fun hS => ?_)
        refine wpAnyH_take (i := 4) (v := ?_) rfl (by kernel_rfl) (by kernel_rfl) (by kernel_rfl) (fun _ _ _ h => h) (Or.inl ⟨by rfl, ?_⟩) hS ?_
        rotate_left
        · intro w _; go_simp; try with_reducible rfl
        simp only [List.getElem_toArray, List.getElem_cons_zero, List.getElem_cons_succ, Act.put, List.setIfInBounds_toArray, List.set_cons_zero, List.set_cons_succ]
        refine wpAnyH_take (i := 5) (v := ?_) rfl (by kernel_rfl) (by kernel_rfl) (by kernel_rfl) (fun _ _ _ h => h) (Or.inl ⟨by rfl, ?_⟩) hS ?_
        rotate_left
        · intro w _; go_simp; try with_reducible rfl
        simp only [List.getElem_toArray, List.getElem_cons_zero, List.getElem_cons_succ, Act.put, List.setIfInBounds_toArray, List.set_cons_zero, List.set_cons_succ]
        refine wpAnyH_take (i := 6) (v := ?_) rfl (by kernel_rfl) (by kernel_rfl) (by kernel_rfl) (fun _ _ _ h => h) (Or.inl ⟨by rfl, ?_⟩) hS ?_
        rotate_left
        · intro w _; go_simp; try with_reducible rfl
        simp only [List.getElem_toArray, List.getElem_cons_zero, List.getElem_cons_succ, Act.put, List.setIfInBounds_toArray, List.set_cons_zero, List.set_cons_succ]
        refine wpAnyH_ready (rs := [8]) (by kernel_rfl) (by simp) ?_
        refine AllReadyH.cons rfl (fun K hK => ?_) AllReadyH.nil
        rw [if_pos (by rfl)]
        simp only [List.getElem_toArray, List.getElem_cons_zero, List.getElem_cons_succ]
        refine wp_store_agg 29 _ _ rfl g25 29 [(.slice none 0 0), (.slice none 0 0), (.bool false)] [(.slice av132x nv132x pv132x), (.slice av132y nv132y pv132y), (.bool false)] rfl rfl hk25 size_pt (by intro v_ hv_; simp only [List.mem_cons, List.not_mem_nil, or_false] at hv_; rcases hv_ with rfl | rfl | rfl <;> first | rfl | exact c132x.fp.one_cell | exact c132y.fp.one_cell) rfl ?_
        intro w34 hn hg
        replace hB := hB.grown hg hB.size (by intro k_ hk_; cases hk_; exact HG25.out)
        clear c31x
        clear c31y
        replace hk7 := hk7.grown hg (fun e_ => NE7_25.out (Option.some.inj e_))
        replace hR := hR.grown hg hR.size (by intro k_ hk_; cases hk_; exact HR_.out)
        clear c131x
        clear c131y
        replace hk25 := hn
        replace c132x := c132x.off off_c132x_25 hg
        replace c132y := c132y.off off_c132y_25 hg
        clear hn hg
        refine hK.out _ _ hk7 (fun hS => ?_)
        refine wpAnyH_take (i := 9) (v := ?_) rfl (by kernel_rfl) (by kernel_rfl) (by kernel_rfl) (fun _ _ _ h => h) (Or.inl ⟨by rfl, ?_⟩) hS ?_
        rotate_left
        · intro w _; go_simp; try with_reducible rfl
        simp only [List.getElem_toArray, List.getElem_cons_zero, List.getElem_cons_succ, Act.put, List.setIfInBounds_toArray, List.set_cons_zero, List.set_cons_succ]
        refine wpAnyH_done (by kernel_rfl) ?_ _
        clear hS
        go_wp2_with fail
        go_meet
        exact ⟨rfl, _, _, _, rfl, hk25, c132x.fp, c132y.fp, HR_.out, hR⟩
      ·
       refine wp_alloc_agg 29 rfl [(.slice none 0 0), (.slice none 0 0), (.bool false)] 3 (by kernel_rfl) ?_
       intro w31 hk25 hb
       have hz_ := hB.size
       have hR0_ := hR.size
       have lt7_ := hk7.lt
       replace hB := hB.trans (hb.mono hB.size)
       replace c31x := c31x.below hb
       replace c31y := c31y.below hb
       replace hk7 := hk7.keep hb
       replace hR := hR.trans (hb.mono hR.size)
       clear hb
       obtain ⟨g25, hg_⟩ : ∃ g, g = w30.heap.size := ⟨_, rfl⟩
       rw [← hg_] at hk25 ⊢
       have HG25 : Hid (w.heap.size ≤ g25) := Lib.hid (by rw [hg_]; exact hz_)
       have NE7_25 : Hid (g7 ≠ g25) := Lib.hid (by rw [hg_]; exact Nat.ne_of_lt lt7_)
       have HR_ : Hid (w29.heap.size ≤ g25) := Lib.hid (by rw [hg_]; exact hR0_)
       clear hR0_
       clear hg_ hz_ lt7_
       refine hK.out _ _ hk7 (fun hS => ?_)
       refine wpAnyH_ready (rs := [2]) (by kernel_rfl) (by simp) ?_
       refine AllReadyH.cons rfl (fun K hK => ?_) AllReadyH.nil
       rw [if_pos (by rfl)]
       simp only [List.getElem_toArray, List.getElem_cons_zero, List.getElem_cons_succ]
       go_simp
       refine (opposite_c c31x c31y).mono ?_; rintro e_ w32 ⟨v131, rfl, hp_, hb⟩
       dsimp only
       obtain ⟨z131x, z131y, rfl, c131x, c131y⟩ := hp_
       replace hB := hB.trans (hb.mono hB.size)
       replace c31x := c31x.below hb
       replace c31y := c31y.below hb
       replace hk7 := hk7.keep hb
       replace hR := hR.trans (hb.mono hR.size)
       replace hk25 := hk25.keep hb
       clear hb
       refine hK.out _ _ hk7 (fun hS => ?_)
       have h_ := add_ok ⟨_, _, rfl, c31x.num, c31y.num⟩ ⟨_, _, rfl, c131x.num, c131y.num⟩ OP.out (eNeg_on OP.out) (tP.below hB) (tD.below hB)
       rw [eAdd_neg OP.out] at h_
       refine wpAnyH_ready (rs := [3]) (by kernel_rfl) (by simp) ?_
       refine AllReadyH.cons rfl (fun K hK => ?_) AllReadyH.nil
       rw [if_pos (by rfl)]
       simp only [List.getElem_toArray, List.getElem_cons_zero, List.getElem_cons_succ]
       go_simp
       refine (h_).mono ?_; rintro e_ w33 ⟨v132, rfl, hn, hb⟩
       dsimp only
       obtain ⟨v132x, v132y, rfl, h1_, h2_, _⟩ := hn
       have off_c132x_7 := NatRes.off_new h1_ hk7.lt
       have off_c132x_25 := NatRes.off_new h1_ hk25.lt
       have off_c132y_7 := NatRes.off_new h2_ hk7.lt
       have off_c132y_25 := NatRes.off_new h2_ hk25.lt
       have c132x := h1_.mono (Nat.zero_le _)
       have c132y := h2_.mono (Nat.zero_le _)
       obtain ⟨av132x, nv132x, pv132x, rfl⟩ := c132x.fp.sliced
       obtain ⟨av132y, nv132y, pv132y, rfl⟩ := c132y.fp.sliced
       clear h1_ h2_
       replace hB := hB.trans (hb.mono hB.size)
       replace c31x := c31x.below hb
       replace c31y := c31y.below hb
       replace hk7 := hk7.keep hb
       replace hR := hR.trans (hb.mono hR.size)
       replace hk25 := hk25.keep hb
       replace c131x := c131x.below hb
       replace c131y := c131y.below hb
       clear hb h_
       refine hK.out _ _ hk7 (fun hS => ?_)
       refine wpAnyH_take (i := 4) (v := ?_) rfl (by kernel_rfl) (by kernel_rfl) (by kernel_rfl) (fun _ _ _ h => h) (Or.inl ⟨by rfl, ?_⟩) hS ?_
       rotate_left
       · intro w _; go_simp; try with_reducible rfl
       simp only [List.getElem_toArray, List.getElem_cons_zero, List.getElem_cons_succ, Act.put, List.setIfInBounds_toArray, List.set_cons_zero, List.set_cons_succ]
       refine wpAnyH_take (i := 5) (v := ?_) rfl (by kernel_rfl) (by kernel_rfl) (by kernel_rfl) (fun _ _ _ h => h) (Or.inl ⟨by rfl, ?_⟩) hS ?_
       rotate_left
       · intro w _; go_simp; try with_reducible rfl
       simp only [List.getElem_toArray, List.getElem_cons_zero, List.getElem_cons_succ, Act.put, List.setIfInBounds_toArray, List.set_cons_zero, List.set_cons_succ]
       refine wpAnyH_take (i := 6) (v := ?_) rfl (by kernel_rfl) (by kernel_rfl) (by kernel_rfl) (fun _ _ _ h => h) (Or.inl ⟨by rfl, ?_⟩) hS ?_
       rotate_left
       · intro w _; go_simp; try with_reducible rfl
       simp only [List.getElem_toArray, List.getElem_cons_zero, List.getElem_cons_succ, Act.put, List.setIfInBounds_toArray, List.set_cons_zero, List.set_cons_succ]
       refine wpAnyH_ready (rs := [8]) (by kernel_rfl) (by simp) ?_
       refine AllReadyH.cons rfl (fun K hK => ?_) AllReadyH.nil
       rw [if_pos (by rfl)]
       simp only [List.getElem_toArray, List.getElem_cons_zero, List.getElem_cons_succ]
       refine wp_store_agg 29 _ _ rfl g25 29 [(.slice none 0 0), (.slice none 0 0), (.bool false)] [(.slice av132x nv132x pv132x), (.slice av132y nv132y pv132y), (.bool false)] rfl rfl hk25 size_pt (by intro v_ hv_; simp only [List.mem_cons, List.not_mem_nil, or_false] at hv_; rcases hv_ with rfl | rfl | rfl <;> first | rfl | exact c132x.fp.one_cell | exact c132y.fp.one_cell) rfl ?_
       intro w34 hn hg
       replace hB := hB.grown hg hB.size (by intro k_ hk_; cases hk_; exact HG25.out)
       clear c31x
       clear c31y
       replace hk7 := hk7.grown hg (fun e_ => NE7_25.out (Option.some.inj e_))
       replace hR := hR.grown hg hR.size (by intro k_ hk_; cases hk_; exact HR_.out)
       replace hk25 := hn
       clear c131x
       clear c131y
       replace c132x := c132x.off off_c132x_25 hg
       replace c132y := c132y.off off_c132y_25 hg
       clear hn hg
       refine hK.out _ _ hk7 (fun hS => ?_)
       refine wpAnyH_take (i := 9) (v := ?_) rfl (by kernel_rfl) (by kernel_rfl) (by kernel_rfl) (fun _ _ _ h => h) (Or.inl ⟨by rfl, ?_⟩) hS ?_
       rotate_left
       · intro w _; go_simp; try with_reducible rfl
       simp only [List.getElem_toArray, List.getElem_cons_zero, List.getElem_cons_succ, Act.put, List.setIfInBounds_toArray, List.set_cons_zero, List.set_cons_succ]
       refine wpAnyH_done (by kernel_rfl) ?_ _
       clear hS
       go_wp2_with fail
       go_meet
       exact ⟨rfl, _, _, _, rfl, hk25, c132x.fp, c132y.fp, HR_.out, hR⟩
     case rest =>
      obtain ⟨rfl, g25, v25x, v25y, rfl, hk25, c25x, c25y, hgx_, hb⟩ := hcut
      obtain ⟨w30, rfl⟩ : ∃ x, x = wc := ⟨_, rfl⟩
      replace hB := hB.trans (hb.mono hB.size)
      replace c31x := c31x.below hb
      replace c31y := c31y.below hb
      replace hk7 := hk7.keep hb
      replace c36x := c36x.below hb
      replace c36y := c36y.below hb
      replace hk9 := hk9.keep hb
      replace c41x := c41x.below hb
      replace c41y := c41y.below hb
      replace hk11 := hk11.keep hb
      replace c95x := c95x.below hb
      replace c95y := c95y.below hb
      replace hk13 := hk13.keep hb
      replace c101x := c101x.below hb
      replace c101y := c101y.below hb
      replace hk15 := hk15.keep hb
      replace c107x := c107x.below hb
      replace c107y := c107y.below hb
      replace hk17 := hk17.keep hb
      replace c113x := c113x.below hb
      replace c113y := c113y.below hb
      replace hk19 := hk19.keep hb
      replace c119x := c119x.below hb
      replace c119y := c119y.below hb
      replace hk21 := hk21.keep hb
      replace hk23 := hk23.keep hb
      replace c23x := c23x.below hb
      replace c23y := c23y.below hb
      clear hb hgx_ hR
      go_wp2_with fail
      refine wp_region_held_drew (S := fun W_ => Rw W_ g7 29 [(.slice av31x nv31x pv31x), (.slice av31y nv31y pv31y), (.bool false)] ∧ Rw W_ g13 29 [(.slice av95x nv95x pv95x), (.slice av95y nv95y pv95y), (.bool false)] ∧ Rw W_ g15 29 [(.slice av101x nv101x pv101x), (.slice av101y nv101y pv101y), (.bool false)] ∧ Rw W_ g19 29 [(.slice av113x nv113x pv113x), (.slice av113y nv113y pv113y), (.bool false)] ∧ Rw W_ g21 29 [(.slice av119x nv119x pv119x), (.slice av119y nv119y pv119y), (.bool false)] ∧ Rw W_ g23 29 [v23x, v23y, .bool false] ∧ Rw W_ g25 29 [v25x, v25y, .bool false]) (by kernel_rfl) (⟨hk7, hk13, hk15, hk19, hk21, hk23, hk25⟩) (fun hS => ?_)
      have hb := below_drewN (Below.refl w30.heap.size w30) 1
      obtain ⟨w31, hw_⟩ : ∃ x, x = World.drew w30 := ⟨_, rfl⟩
      rw [show World.drewN w30 1 = w31 from hw_.symm] at hb
      rw [← hw_] at hS ⊢
      clear hw_
      replace hB := hB.trans (hb.mono hB.size)
      replace c31x := c31x.below hb
      replace c31y := c31y.below hb
      replace hk7 := hk7.keep hb
      replace c36x := c36x.below hb
      replace c36y := c36y.below hb
      replace hk9 := hk9.keep hb
      replace c41x := c41x.below hb
      replace c41y := c41y.below hb
      replace hk11 := hk11.keep hb
      replace c95x := c95x.below hb
      replace c95y := c95y.below hb
      replace hk13 := hk13.keep hb
      replace c101x := c101x.below hb
      replace c101y := c101y.below hb
      replace hk15 := hk15.keep hb
      replace c107x := c107x.below hb
      replace c107y := c107y.below hb
      replace hk17 := hk17.keep hb
      replace c113x := c113x.below hb
      replace c113y := c113y.below hb
      replace hk19 := hk19.keep hb
      replace c119x := c119x.below hb
      replace c119y := c119y.below hb
      replace hk21 := hk21.keep hb
      replace hk23 := hk23.keep hb
      replace c23x := c23x.below hb
      replace c23y := c23y.below hb
      replace hk25 := hk25.keep hb
      replace c25x := c25x.below hb
      replace c25y := c25y.below hb
      clear hb
      refine wpAnyH_take (i := 0) (v := .agg #[(.slice av95x nv95x pv95x), (.slice av95y nv95y pv95y), (.bool false)]) rfl (by kernel_rfl) (by kernel_rfl) (by kernel_rfl) (fun _ _ _ h => h) (yieldsIf_load_mid (by rfl) 29 _ rfl g13 0 rfl [(.slice av95x nv95x pv95x), (.slice av95y nv95y pv95y), (.bool false)] _ (fun W_ hW_ => Rw.range (hW_.2.1) 0 _ fun j_ v_ hv_ => by rwa [Nat.zero_add]) Tryd.underlying29 rfl size_pt) hS ?_
      simp only [List.getElem_toArray, List.getElem_cons_zero, List.getElem_cons_succ, Act.put, List.setIfInBounds_toArray, List.set_cons_zero, List.set_cons_succ]
      have h_ := on13_c (inf := false) c95x c95y
      rw [onB_of OS1.out] at h_
      refine wpAnyH_ready (rs := [1]) (by kernel_rfl) (by simp) ?_
      refine AllReadyH.cons rfl (fun K hK => ?_) AllReadyH.nil
      rw [if_pos (by rfl)]
      simp only [List.getElem_toArray, List.getElem_cons_zero, List.getElem_cons_succ]
      go_simp
      refine (h_).mono ?_; rintro e_ w32 ⟨rfl, hb⟩
      dsimp only
      replace hB := hB.trans (hb.mono hB.size)
      replace c31x := c31x.below hb
      replace c31y := c31y.below hb
      replace hk7 := hk7.keep hb
      replace c36x := c36x.below hb
      replace c36y := c36y.below hb
      replace hk9 := hk9.keep hb
      replace c41x := c41x.below hb
      replace c41y := c41y.below hb
      replace hk11 := hk11.keep hb
      replace c95x := c95x.below hb
      replace c95y := c95y.below hb
      replace hk13 := hk13.keep hb
      replace c101x := c101x.below hb
      replace c101y := c101y.below hb
      replace hk15 := hk15.keep hb
      replace c107x := c107x.below hb
      replace c107y := c107y.below hb
      replace hk17 := hk17.keep hb
      replace c113x := c113x.below hb
      replace c113y := c113y.below hb
      replace hk19 := hk19.keep hb
      replace c119x := c119x.below hb
      replace c119y := c119y.below hb
      replace hk21 := hk21.keep hb
      replace hk23 := hk23.keep hb
      replace c23x := c23x.below hb
      replace c23y := c23y.below hb
      replace hk25 := hk25.keep hb
      replace c25x := c25x.below hb
      replace c25y := c25y.below hb
      clear hb h_
      refine hK.out _ _ ⟨hk7, hk13, hk15, hk19, hk21, hk23, hk25⟩ (fun hS => ?_)
      refine wpAnyH_ready (rs := [2]) (by kernel_rfl) (by simp) ?_
      refine AllReadyH.cons rfl (fun K hK => ?_) AllReadyH.nil
      rw [if_pos (by rfl)]
      simp only [List.getElem_toArray, List.getElem_cons_zero, List.getElem_cons_succ]
      go_simp
      refine hK.out _ _ hS (fun hS => ?_)
      refine wpAnyH_take (i := 3) (v := .agg #[(.slice av113x nv113x pv113x), (.slice av113y nv113y pv113y), (.bool false)]) rfl (by kernel_rfl) (by kernel_rfl) (by kernel_rfl) (fun _ _ _ h => h) (yieldsIf_load_mid (by rfl) 29 _ rfl g19 0 rfl [(.slice av113x nv113x pv113x), (.slice av113y nv113y pv113y), (.bool false)] _ (fun W_ hW_ => Rw.range (hW_.2.2.2.1) 0 _ fun j_ v_ hv_ => by rwa [Nat.zero_add]) Tryd.underlying29 rfl size_pt) hS ?_
      simp only [List.getElem_toArray, List.getElem_cons_zero, List.getElem_cons_succ, Act.put, List.setIfInBounds_toArray, List.set_cons_zero, List.set_cons_succ]
      have h_ := on13_c (inf := false) c113x c113y
      rw [onB_of OS3.out] at h_
      refine wpAnyH_ready (rs := [4]) (by kernel_rfl) (by simp) ?_
      refine AllReadyH.cons rfl (fun K hK => ?_) AllReadyH.nil
      rw [if_pos (by rfl)]
      simp only [List.getElem_toArray, List.getElem_cons_zero, List.getElem_cons_succ]
      go_simp
      refine (h_).mono ?_; rintro e_ w33 ⟨rfl, hb⟩
      dsimp only
      replace hB := hB.trans (hb.mono hB.size)
      replace c31x := c31x.below hb
      replace c31y := c31y.below hb
      replace hk7 := hk7.keep hb
      replace c36x := c36x.below hb
      replace c36y := c36y.below hb
      replace hk9 := hk9.keep hb
      replace c41x := c41x.below hb
      replace c41y := c41y.below hb
      replace hk11 := hk11.keep hb
      replace c95x := c95x.below hb
      replace c95y := c95y.below hb
      replace hk13 := hk13.keep hb
      replace c101x := c101x.below hb
      replace c101y := c101y.below hb
      replace hk15 := hk15.keep hb
      replace c107x := c107x.below hb
      replace c107y := c107y.below hb
      replace hk17 := hk17.keep hb
      replace c113x := c113x.below hb
      replace c113y := c113y.below hb
      replace hk19 := hk19.keep hb
      replace c119x := c119x.below hb
      replace c119y := c119y.below hb
      replace hk21 := hk21.keep hb
      replace hk23 := hk23.keep hb
      replace c23x := c23x.below hb
      replace c23y := c23y.below hb
      replace hk25 := hk25.keep hb
      replace c25x := c25x.below hb
      replace c25y := c25y.below hb
      clear hb h_
      refine hK.out _ _ ⟨hk7, hk13, hk15, hk19, hk21, hk23, hk25⟩ (fun hS => ?_)
      refine wpAnyH_ready (rs := [5]) (by kernel_rfl) (by simp) ?_
      refine AllReadyH.cons rfl (fun K hK => ?_) AllReadyH.nil
      rw [if_pos (by rfl)]
      simp only [List.getElem_toArray, List.getElem_cons_zero, List.getElem_cons_succ]
      go_simp
      refine hK.out _ _ hS (fun hS => ?_)
      refine wpAnyH_ready (rs := [6]) (by kernel_rfl) (by simp) ?_
      refine AllReadyH.cons rfl (fun K hK => ?_) AllReadyH.nil
      rw [if_pos (by rfl)]
      simp only [List.getElem_toArray, List.getElem_cons_zero, List.getElem_cons_succ]
      go_simp
      refine hK.out _ _ hS (fun hS => ?_)
      refine wpAnyH_take (i := 7) (v := .agg #[(.slice av95x nv95x pv95x), (.slice av95y nv95y pv95y), (.bool false)]) rfl (by kernel_rfl) (by kernel_rfl) (by kernel_rfl) (fun _ _ _ h => h) (yieldsIf_load_mid (by rfl) 29 _ rfl g13 0 rfl [(.slice av95x nv95x pv95x), (.slice av95y nv95y pv95y), (.bool false)] _ (fun W_ hW_ => Rw.range (hW_.2.1) 0 _ fun j_ v_ hv_ => by rwa [Nat.zero_add]) Tryd.underlying29 rfl size_pt) hS ?_
      simp only [List.getElem_toArray, List.getElem_cons_zero, List.getElem_cons_succ, Act.put, List.setIfInBounds_toArray, List.set_cons_zero, List.set_cons_succ]
      refine wpAnyH_take (i := 8) (v := .agg #[(.slice av101x nv101x pv101x), (.slice av101y nv101y pv101y), (.bool false)]) rfl (by kernel_rfl) (by kernel_rfl) (by kernel_rfl) (fun _ _ _ h => h) (yieldsIf_load_mid (by rfl) 29 _ rfl g15 0 rfl [(.slice av101x nv101x pv101x), (.slice av101y nv101y pv101y), (.bool false)] _ (fun W_ hW_ => Rw.range (hW_.2.2.1) 0 _ fun j_ v_ hv_ => by rwa [Nat.zero_add]) Tryd.underlying29 rfl size_pt) hS ?_
      simp only [List.getElem_toArray, List.getElem_cons_zero, List.getElem_cons_succ, Act.put, List.setIfInBounds_toArray, List.set_cons_zero, List.set_cons_succ]
      have h_ := one_c ⟨_, _, rfl, c95x, c95y⟩ ⟨_, _, rfl, c101x, c101y⟩
      rw [show decide (S1.1.val = S1.1.val ∧ S1.2.val = S1.2.val) = true from decide_eq_true ⟨rfl, rfl⟩] at h_
      refine wpAnyH_ready (rs := [9]) (by kernel_rfl) (by simp) ?_
      refine AllReadyH.cons rfl (fun K hK => ?_) AllReadyH.nil
      rw [if_pos (by rfl)]
      simp only [List.getElem_toArray, List.getElem_cons_zero, List.getElem_cons_succ]
      go_simp
      refine (h_).mono ?_; rintro e_ w34 ⟨rfl, hb⟩
      dsimp only
      replace hB := hB.trans (hb.mono hB.size)
      replace c31x := c31x.below hb
      replace c31y := c31y.below hb
      replace hk7 := hk7.keep hb
      replace c36x := c36x.below hb
      replace c36y := c36y.below hb
      replace hk9 := hk9.keep hb
      replace c41x := c41x.below hb
      replace c41y := c41y.below hb
      replace hk11 := hk11.keep hb
      replace c95x := c95x.below hb
      replace c95y := c95y.below hb
      replace hk13 := hk13.keep hb
      replace c101x := c101x.below hb
      replace c101y := c101y.below hb
      replace hk15 := hk15.keep hb
      replace c107x := c107x.below hb
      replace c107y := c107y.below hb
      replace hk17 := hk17.keep hb
      replace c113x := c113x.below hb
      replace c113y := c113y.below hb
      replace hk19 := hk19.keep hb
      replace c119x := c119x.below hb
      replace c119y := c119y.below hb
      replace hk21 := hk21.keep hb
      replace hk23 := hk23.keep hb
      replace c23x := c23x.below hb
      replace c23y := c23y.below hb
      replace hk25 := hk25.keep hb
      replace c25x := c25x.below hb
      replace c25y := c25y.below hb
      clear hb h_
      refine hK.out _ _ ⟨hk7, hk13, hk15, hk19, hk21, hk23, hk25⟩ (fun hS => ?_)
      refine wpAnyH_ready (rs := [10]) (by kernel_rfl) (by simp) ?_
      refine AllReadyH.cons rfl (fun K hK => ?_) AllReadyH.nil
      rw [if_pos (by rfl)]
      simp only [List.getElem_toArray, List.getElem_cons_zero, List.getElem_cons_succ]
      go_simp
      refine hK.out _ _ hS (fun hS => ?_)
      refine wpAnyH_ready (rs := [11]) (by kernel_rfl) (by simp) ?_
      refine AllReadyH.cons rfl (fun K hK => ?_) AllReadyH.nil
      rw [if_pos (by rfl)]
      simp only [List.getElem_toArray, List.getElem_cons_zero, List.getElem_cons_succ]
      go_simp
      refine hK.out _ _ hS (fun hS => ?_)
      refine wpAnyH_take (i := 12) (v := .agg #[(.slice av113x nv113x pv113x), (.slice av113y nv113y pv113y), (.bool false)]) rfl (by kernel_rfl) (by kernel_rfl) (by kernel_rfl) (fun _ _ _ h => h) (yieldsIf_load_mid (by rfl) 29 _ rfl g19 0 rfl [(.slice av113x nv113x pv113x), (.slice av113y nv113y pv113y), (.bool false)] _ (fun W_ hW_ => Rw.range (hW_.2.2.2.1) 0 _ fun j_ v_ hv_ => by rwa [Nat.zero_add]) Tryd.underlying29 rfl size_pt) hS ?_
      simp only [List.getElem_toArray, List.getElem_cons_zero, List.getElem_cons_succ, Act.put, List.setIfInBounds_toArray, List.set_cons_zero, List.set_cons_succ]
      refine wpAnyH_take (i := 13) (v := .agg #[(.slice av119x nv119x pv119x), (.slice av119y nv119y pv119y), (.bool false)]) rfl (by kernel_rfl) (by kernel_rfl) (by kernel_rfl) (fun _ _ _ h => h) (yieldsIf_load_mid (by rfl) 29 _ rfl g21 0 rfl [(.slice av119x nv119x pv119x), (.slice av119y nv119y pv119y), (.bool false)] _ (fun W_ hW_ => Rw.range (hW_.2.2.2.2.1) 0 _ fun j_ v_ hv_ => by rwa [Nat.zero_add]) Tryd.underlying29 rfl size_pt) hS ?_
      simp only [List.getElem_toArray, List.getElem_cons_zero, List.getElem_cons_succ, Act.put, List.setIfInBounds_toArray, List.set_cons_zero, List.set_cons_succ]
      have h_ := one_c ⟨_, _, rfl, c113x, c113y⟩ ⟨_, _, rfl, c119x, c119y⟩
      rw [show decide (S3.1.val = S3.1.val ∧ S3.2.val = S3.2.val) = true from decide_eq_true ⟨rfl, rfl⟩] at h_
      refine wpAnyH_ready (rs := [14]) (by kernel_rfl) (by simp) ?_
      refine AllReadyH.cons rfl (fun K hK => ?_) AllReadyH.nil
      rw [if_pos (by rfl)]
      simp only [List.getElem_toArray, List.getElem_cons_zero, List.getElem_cons_succ]
      go_simp
      refine (h_).mono ?_; rintro e_ w35 ⟨rfl, hb⟩
      dsimp only
      replace hB := hB.trans (hb.mono hB.size)
      replace c31x := c31x.below hb
      replace c31y := c31y.below hb
      replace hk7 := hk7.keep hb
      replace c36x := c36x.below hb
      replace c36y := c36y.below hb
      replace hk9 := hk9.keep hb
      replace c41x := c41x.below hb
      replace c41y := c41y.below hb
      replace hk11 := hk11.keep hb
      replace c95x := c95x.below hb
      replace c95y := c95y.below hb
      replace hk13 := hk13.keep hb
      replace c101x := c101x.below hb
      replace c101y := c101y.below hb
      replace hk15 := hk15.keep hb
      replace c107x := c107x.below hb
      replace c107y := c107y.below hb
      replace hk17 := hk17.keep hb
      replace c113x := c113x.below hb
      replace c113y := c113y.below hb
      replace hk19 := hk19.keep hb
      replace c119x := c119x.below hb
      replace c119y := c119y.below hb
      replace hk21 := hk21.keep hb
      replace hk23 := hk23.keep hb
      replace c23x := c23x.below hb
      replace c23y := c23y.below hb
      replace hk25 := hk25.keep hb
      replace c25x := c25x.below hb
      replace c25y := c25y.below hb
      clear hb h_
      refine hK.out _ _ ⟨hk7, hk13, hk15, hk19, hk21, hk23, hk25⟩ (fun hS => ?_)
      refine wpAnyH_ready (rs := [15]) (by kernel_rfl) (by simp) ?_
      refine AllReadyH.cons rfl (fun K hK => ?_) AllReadyH.nil
      rw [if_pos (by rfl)]
      simp only [List.getElem_toArray, List.getElem_cons_zero, List.getElem_cons_succ]
      go_simp
      refine hK.out _ _ hS (fun hS => ?_)
      refine wpAnyH_ready (rs := [16]) (by kernel_rfl) (by simp) ?_
      refine AllReadyH.cons rfl (fun K hK => ?_) AllReadyH.nil
      rw [if_pos (by rfl)]
      simp only [List.getElem_toArray, List.getElem_cons_zero, List.getElem_cons_succ]
      go_simp
      refine hK.out _ _ hS (fun hS => ?_)
      refine wpAnyH_take (i := 17) (v := .agg #[v23x, v23y, .bool false]) rfl (by kernel_rfl) (by kernel_rfl) (by kernel_rfl) (fun _ _ _ h => h) (yieldsIf_load_mid (by rfl) 29 _ rfl g23 0 rfl [v23x, v23y, .bool false] _ (fun W_ hW_ => Rw.range (hW_.2.2.2.2.2.1) 0 _ fun j_ v_ hv_ => by rwa [Nat.zero_add]) Tryd.underlying29 rfl size_pt) hS ?_
      simp only [List.getElem_toArray, List.getElem_cons_zero, List.getElem_cons_succ, Act.put, List.setIfInBounds_toArray, List.set_cons_zero, List.set_cons_succ]
      refine wpAnyH_take (i := 18) (v := .agg #[(.slice av31x nv31x pv31x), (.slice av31y nv31y pv31y), (.bool false)]) rfl (by kernel_rfl) (by kernel_rfl) (by kernel_rfl) (fun _ _ _ h => h) (yieldsIf_load_mid (by rfl) 29 _ rfl g7 0 rfl [(.slice av31x nv31x pv31x), (.slice av31y nv31y pv31y), (.bool false)] _ (fun W_ hW_ => Rw.range (hW_.1) 0 _ fun j_ v_ hv_ => by rwa [Nat.zero_add]) Tryd.underlying29 rfl size_pt) hS ?_
      simp only [List.getElem_toArray, List.getElem_cons_zero, List.getElem_cons_succ, Act.put, List.setIfInBounds_toArray, List.set_cons_zero, List.set_cons_succ]
      have h_ := one_c ⟨_, _, rfl, c23x, c23y⟩ ⟨_, _, rfl, c31x, c31y⟩
      rw [show decide (P.1.val = P.1.val ∧ P.2.val = P.2.val) = true from decide_eq_true ⟨rfl, rfl⟩] at h_
      refine wpAnyH_ready (rs := [19]) (by kernel_rfl) (by simp) ?_
      refine AllReadyH.cons rfl (fun K hK => ?_) AllReadyH.nil
      rw [if_pos (by rfl)]
      simp only [List.getElem_toArray, List.getElem_cons_zero, List.getElem_cons_succ]
      go_simp
      refine (h_).mono ?_; rintro e_ w36 ⟨rfl, hb⟩
      dsimp only
      replace hB := hB.trans (hb.mono hB.size)
      replace c31x := c31x.below hb
      replace c31y := c31y.below hb
      replace hk7 := hk7.keep hb
      replace c36x := c36x.below hb
      replace c36y := c36y.below hb
      replace hk9 := hk9.keep hb
      replace c41x := c41x.below hb
      replace c41y := c41y.below hb
      replace hk11 := hk11.keep hb
      replace c95x := c95x.below hb
      replace c95y := c95y.below hb
      replace hk13 := hk13.keep hb
      replace c101x := c101x.below hb
      replace c101y := c101y.below hb
      replace hk15 := hk15.keep hb
      replace c107x := c107x.below hb
      replace c107y := c107y.below hb
      replace hk17 := hk17.keep hb
      replace c113x := c113x.below hb
      replace c113y := c113y.below hb
      replace hk19 := hk19.keep hb
      replace c119x := c119x.below hb
      replace c119y := c119y.below hb
      replace hk21 := hk21.keep hb
      replace hk23 := hk23.keep hb
      replace c23x := c23x.below hb
      replace c23y := c23y.below hb
      replace hk25 := hk25.keep hb
      replace c25x := c25x.below hb
      replace c25y := c25y.below hb
      clear hb h_
      refine hK.out _ _ ⟨hk7, hk13, hk15, hk19, hk21, hk23, hk25⟩ (fun hS => ?_)
      refine wpAnyH_ready (rs := [20]) (by kernel_rfl) (by simp) ?_
      refine AllReadyH.cons rfl (fun K hK => ?_) AllReadyH.nil
      rw [if_pos (by rfl)]
      simp only [List.getElem_toArray, List.getElem_cons_zero, List.getElem_cons_succ]
      go_simp
      refine hK.out _ _ hS (fun hS => ?_)
      refine wpAnyH_ready (rs := [21]) (by kernel_rfl) (by simp) ?_
      refine AllReadyH.cons rfl (fun K hK => ?_) AllReadyH.nil
      rw [if_pos (by rfl)]
      simp only [List.getElem_toArray, List.getElem_cons_zero, List.getElem_cons_succ]
      go_simp
      refine hK.out _ _ hS (fun hS => ?_)
      refine wpAnyH_take (i := 22) (v := .agg #[v25x, v25y, .bool false]) rfl (by kernel_rfl) (by kernel_rfl) (by kernel_rfl) (fun _ _ _ h => h) (yieldsIf_load_mid (by rfl) 29 _ rfl g25 0 rfl [v25x, v25y, .bool false] _ (fun W_ hW_ => Rw.range (hW_.2.2.2.2.2.2) 0 _ fun j_ v_ hv_ => by rwa [Nat.zero_add]) Tryd.underlying29 rfl size_pt) hS ?_
      simp only [List.getElem_toArray, List.getElem_cons_zero, List.getElem_cons_succ, Act.put, List.setIfInBounds_toArray, List.set_cons_zero, List.set_cons_succ]
      refine wpAnyH_ready (rs := [23]) (by kernel_rfl) (by simp) ?_
      refine AllReadyH.cons rfl (fun K hK => ?_) AllReadyH.nil
      rw [if_pos (by rfl)]
      simp only [List.getElem_toArray, List.getElem_cons_zero, List.getElem_cons_succ]
      go_simp
      refine (zero_c w36).mono ?_; rintro e_ w37 ⟨v184, rfl, hp_, hb⟩
      dsimp only
      obtain ⟨z184x, z184y, rfl, c184x, c184y⟩ := hp_
      replace hB := hB.trans (hb.mono hB.size)
      replace c31x := c31x.below hb
      replace c31y := c31y.below hb
      replace hk7 := hk7.keep hb
      replace c36x := c36x.below hb
      replace c36y := c36y.below hb
      replace hk9 := hk9.keep hb
      replace c41x := c41x.below hb
      replace c41y := c41y.below hb
      replace hk11 := hk11.keep hb
      replace c95x := c95x.below hb
      replace c95y := c95y.below hb
      replace hk13 := hk13.keep hb
      replace c101x := c101x.below hb
      replace c101y := c101y.below hb
      replace hk15 := hk15.keep hb
      replace c107x := c107x.below hb
      replace c107y := c107y.below hb
      replace hk17 := hk17.keep hb
      replace c113x := c113x.below hb
      replace c113y := c113y.below hb
      replace hk19 := hk19.keep hb
      replace c119x := c119x.below hb
      replace c119y := c119y.below hb
      replace hk21 := hk21.keep hb
      replace hk23 := hk23.keep hb
      replace c23x := c23x.below hb
      replace c23y := c23y.below hb
      replace hk25 := hk25.keep hb
      replace c25x := c25x.below hb
      replace c25y := c25y.below hb
      clear hb
      refine hK.out _ _ ⟨hk7, hk13, hk15, hk19, hk21, hk23, hk25⟩ (fun hS => ?_)
      have h_ := one_c ⟨_, _, rfl, c25x, c25y⟩ ⟨_, _, rfl, c184x, c184y⟩
      rw [show decide (eO.1.val = eO.1.val ∧ eO.2.val = eO.2.val) = true from decide_eq_true ⟨rfl, rfl⟩] at h_
      refine wpAnyH_ready (rs := [24]) (by kernel_rfl) (by simp) ?_
      refine AllReadyH.cons rfl (fun K hK => ?_) AllReadyH.nil
      rw [if_pos (by rfl)]
      simp only [List.getElem_toArray, List.getElem_cons_zero, List.getElem_cons_succ]
      go_simp
      refine (h_).mono ?_; rintro e_ w38 ⟨rfl, hb⟩
      dsimp only
      replace hB := hB.trans (hb.mono hB.size)
      replace c31x := c31x.below hb
      replace c31y := c31y.below hb
      replace hk7 := hk7.keep hb
      replace c36x := c36x.below hb
      replace c36y := c36y.below hb
      replace hk9 := hk9.keep hb
      replace c41x := c41x.below hb
      replace c41y := c41y.below hb
      replace hk11 := hk11.keep hb
      replace c95x := c95x.below hb
      replace c95y := c95y.below hb
      replace hk13 := hk13.keep hb
      replace c101x := c101x.below hb
      replace c101y := c101y.below hb
      replace hk15 := hk15.keep hb
      replace c107x := c107x.below hb
      replace c107y := c107y.below hb
      replace hk17 := hk17.keep hb
      replace c113x := c113x.below hb
      replace c113y := c113y.below hb
      replace hk19 := hk19.keep hb
      replace c119x := c119x.below hb
      replace c119y := c119y.below hb
      replace hk21 := hk21.keep hb
      replace hk23 := hk23.keep hb
      replace c23x := c23x.below hb
      replace c23y := c23y.below hb
      replace hk25 := hk25.keep hb
      replace c25x := c25x.below hb
      replace c25y := c25y.below hb
      replace c184x := c184x.below hb
      replace c184y := c184y.below hb
      clear hb h_
      refine hK.out _ _ ⟨hk7, hk13, hk15, hk19, hk21, hk23, hk25⟩ (fun hS => ?_)
      refine wpAnyH_ready (rs := [25]) (by kernel_rfl) (by simp) ?_
      refine AllReadyH.cons rfl (fun K hK => ?_) AllReadyH.nil
      rw [if_pos (by rfl)]
      simp only [List.getElem_toArray, List.getElem_cons_zero, List.getElem_cons_succ]
      go_simp
      refine hK.out _ _ hS (fun hS => ?_)
      refine wpAnyH_ready (rs := [26]) (by kernel_rfl) (by simp) ?_
      refine AllReadyH.cons rfl (fun K hK => ?_) AllReadyH.nil
      rw [if_pos (by rfl)]
      simp only [List.getElem_toArray, List.getElem_cons_zero, List.getElem_cons_succ]
      go_simp
      refine hK.out _ _ hS (fun hS => ?_)
      refine wpAnyH_done (by kernel_rfl) ?_ _
      clear hS
      go_wp2_with fail
      go_ret
      exact ⟨by first | done | rfl | simp, hB⟩
end Go.Proofs.YtlolkighnnedfaaDoor
