import Derived.Test.YtlolkighnnedfaaGreatDoorZ29
import Derived.Test.YtlolkighnnedfaaGreatDoorZ34
import Derived.Test.YtlolkighnnedfaaGreatDoorZ43
import Derived.Deep.DeepCutAuto
import Derived.Deep.CutBlock
/- signetref13.Verify by its contract. (Printed by gen_edrver.py.) -/
set_option linter.unusedVariables false
set_option linter.unusedSimpArgs false
namespace Go.Proofs.YtlolkighnnedfaaGreatDoor
open Go.RowKit Go.Sg
theorem rBase_z (w : World) : Calls Tryz.prog 36 #[] w (fun e w' => ∃ v, e = .returned v ∧ PtAt w' v eB ∧ Below w.heap.size w w') := by
  go_enter Tryz.func36, Tryz.ntmps36
  have hB := Below.refl w.heap.size w
  go_wp2_with (refine wpList_alloc_agg rfl 31 rfl [(.slice none 0 0), (.slice none 0 0), (.bool false)] 3 (by kernel_rfl) ?_)
  intro w1 hk0 hb
  have hz_ := hB.size
  replace hB := hB.trans (hb.mono hB.size)
  clear hb
  obtain ⟨g0, hg_⟩ : ∃ g, g = w.heap.size := ⟨_, rfl⟩
  rw [← hg_] at hk0 ⊢
  have HG0 : Hid (w.heap.size ≤ g0) := Lib.hid (by rw [hg_]; exact hz_)
  clear hg_ hz_
  have hkA : Rw (w1.alloc (.cells (limbX.map (Value.int .u32)).toArray 64)) w1.heap.size 64 (limbX.map (Value.int .u32)) := Rw.new _ _ _
  obtain ⟨wA, hwA⟩ : ∃ x, x = w1.alloc (.cells (limbX.map (Value.int .u32)).toArray 64) := ⟨_, rfl⟩
  have hbA : Below w1.heap.size w1 wA := by rw [hwA]; exact (Below.refl _ _).alloc (Nat.le_refl _) _
  rw [← hwA] at hkA
  have hkC : Rw (wA.alloc (.cells (limbY.map (Value.int .u32)).toArray 64)) wA.heap.size 64 (limbY.map (Value.int .u32)) := Rw.new _ _ _
  have hbC : Below wA.heap.size wA (wA.alloc (.cells (limbY.map (Value.int .u32)).toArray 64)) := (Below.refl _ _).alloc (Nat.le_refl _) _
  have hkA' := hkA.keep hbC
  have lt0 := hk0.lt
  have rX := NatRes.row8 hkA' (B := g0 + 1) (by omega) lim8_X
  have rY := NatRes.row8 hkC (B := g0 + 1) (by have := hbA.size; omega) lim8_Y
  have hk0' := (hk0.keep hbA).keep hbC
  have hB' := (hB.trans (hbA.mono hB.size)).trans (hbC.mono (Nat.le_trans hB.size hbA.size))
  subst hwA
  clear hkA hkC hkA' hbA hbC hk0 hB lt0
  go_wp2_with (refine wpList_store_agg rfl 31 _ _ rfl g0 31 [(.slice none 0 0), (.slice none 0 0), (.bool false)] [_, _, (.bool false)] rfl rfl hk0' size_pt (by intro v_ hv_; simp only [List.mem_cons, List.not_mem_nil, or_false] at hv_; rcases hv_ with rfl | rfl | rfl <;> rfl) rfl ?_)
  intro wz hn hg
  have hBz := hB'.grown hg hB'.size (by intro k_ hk_; cases hk_; exact HG0.out)
  have rX' := rX.past hg
  have rY' := rY.past hg
  clear rX rY hB' hk0' hg
  have e1 : (World.alloc w1 (.cells (limbX.map (Value.int .u32)).toArray 64)).heap.size = w1.heap.size + 1 := Array.size_push ..
  rw [e1] at rY'
  go_wp2_with fail
  refine bodyPost_ret (results_agg rfl rfl hn Tryz.underlying31 rfl size_pt) rfl ?_
  exact ⟨_, rfl, ⟨_, _, rfl, rX'.fp, rY'.fp⟩, hBz⟩
theorem code_none {p m s : List Int} (h : decB p = none) : edCode p m s = 90 := by unfold edCode; rw [h]
theorem edCode_some {pub msg sig : List Int} {A : Pt} (h : decB pub = some A) : edCode pub msg sig = if verE A (chal (sig.take 32) pub msg) sig then 0 else 91 := by unfold edCode; rw [h]
theorem code_short {p m s : List Int} {A : Pt} (h : decB p = some A) (hl : ¬ s.length = 64) : edCode p m s = 91 := by rw [edCode_some h, if_neg (fun v => hl v.1)]
theorem code_high {p m s : List Int} {A : Pt} (h : decB p = some A) (hl : ¬ lnum (s.drop 32) < eL) : edCode p m s = 91 := by rw [edCode_some h, if_neg (fun v => hl v.2.1)]
theorem code_just {p m s : List Int} {A : Pt} (h : decB p = some A) (h1 : s.length = 64) (h2 : lnum (s.drop 32) < eL) :
    edCode p m s = if encB (rOf13 A (lnum (s.drop 32)) (chal (s.take 32) p m)) = s.take 32 then 0 else 91 := by
  rw [edCode_some h]
  by_cases e : encB (rOf13 A (lnum (s.drop 32)) (chal (s.take 32) p m)) = s.take 32
  · rw [if_pos ⟨h1, h2, e⟩, if_pos e]
  · rw [if_neg (fun v => e v.2.2), if_neg e]
theorem neg_low (x : Fp) : (eP - x.val) % eP = (-x).val := by rw [← neg_val, fp_sub, fp_zero, Nat.add_zero]
theorem encB_u8z (P : Pt) : U8 (encB P) := by unfold encB; exact (beN_u8 _ _).reverse (by omega)

set_option maxHeartbeats 4000000 in
set_option maxRecDepth 20000 in
theorem rVerify_c {ap am as_ : Option Addr} {cp cm cs : Nat} {pub msg sig : List Int} {w : World} (hp : Sl .u8 w ap cp pub) (hm : Sl .u8 w am cm msg) (hs : Sl .u8 w as_ cs sig) (up : U8 pub) (um : U8 msg) (us : U8 sig) (lp_ : pub.length ≤ 2097152) (lm_ : msg.length ≤ 2097152) (ls_ : sig.length ≤ 2097152) (ht : RefTabs w) :
    Calls Tryz.prog 6 #[.slice ap pub.length cp, .slice am msg.length cm, .slice as_ sig.length cs] w (EdVPost (edCode pub msg sig) w) := by
  have lp := Lib.hid lp_
  have lm := Lib.hid lm_
  clear lp_ lm_ ls_
  obtain ⟨code, hcode⟩ : ∃ c, c = edCode pub msg sig := ⟨_, rfl⟩
  rw [← hcode]
  have HC := Lib.hid hcode
  clear hcode
  go_enter Tryz.func6, Tryz.ntmps6
  have hB := Below.refl w.heap.size w
  cases hd : decB pub with
  | none =>
    have h_ := rDecode_c (hp.below hB) up (by have := lp.out; omega)
    rw [hd] at h_
    unfold DecPost NoPt noPt at h_
    go_wp2_with fail
    refine (h_).mono ?_; rintro e_ w1 ⟨rfl, hb⟩
    replace hB := hB.trans (hb.mono hB.size)
    clear hb h_
    go_wp2_with (refine wpList_alloc_agg rfl 31 rfl [(.slice none 0 0), (.slice none 0 0), (.bool false)] 3 (by kernel_rfl) ?_)
    intro w2 hk_ hbA_
    obtain ⟨g7, hg_⟩ : ∃ g, g = w1.heap.size := ⟨_, rfl⟩
    rw [← hg_] at hk_ ⊢
    have HGE_ : Hid (w1.heap.size ≤ g7) := Lib.hid (by rw [hg_]; exact Nat.le_refl _)
    clear hg_
    go_wp2_with (refine wpList_store_agg rfl 31 _ _ rfl g7 31 [(.slice none 0 0), (.slice none 0 0), (.bool false)] [(.slice none 0 0), (.slice none 0 0), (.bool false)] rfl rfl hk_ size_pt (by intro v_ hv_; simp only [List.mem_cons, List.not_mem_nil, or_false] at hv_; rcases hv_ with rfl | rfl | rfl <;> rfl) rfl ?_)
    intro w3 hn_ hgr_
    have hk7 := hn_
    have hb := hbA_.grown hgr_ hbA_.size (by intro k_ hk_; cases hk_; exact HGE_.out)
    clear hn_ hgr_ hk_ hbA_ HGE_
    replace hB := hB.trans (hb.mono hB.size)
    clear hb
    obtain rfl : code = 90 := by rw [HC.out]; exact code_none hd
    clear hd HC
    go_wp2_with fail
    go_ret
    exact ⟨by first | done | rfl | simp, hB⟩
  | some A =>
    have OA := Lib.hid (decB_on hd).2
    have h_ := rDecode_c (hp.below hB) up (by have := lp.out; omega)
    rw [hd] at h_
    go_wp2_with fail
    refine (h_).mono ?_; rintro e_ w1 ⟨v19, rfl, hn, hb⟩
    obtain ⟨v19x, v19y, rfl, h1_, h2_, -⟩ := hn
    have c19x := h1_.fp
    have c19y := h2_.fp
    obtain ⟨av19x, nv19x, pv19x, rfl⟩ := c19x.sliced
    obtain ⟨av19y, nv19y, pv19y, rfl⟩ := c19y.sliced
    clear h1_ h2_
    replace hB := hB.trans (hb.mono hB.size)
    clear hb h_
    go_wp2_with (refine wpList_alloc_agg rfl 31 rfl [(.slice none 0 0), (.slice none 0 0), (.bool false)] 3 (by kernel_rfl) ?_)
    intro w2 hk_ hbA_
    obtain ⟨g7, hg_⟩ : ∃ g, g = w1.heap.size := ⟨_, rfl⟩
    rw [← hg_] at hk_ ⊢
    have HGE_ : Hid (w1.heap.size ≤ g7) := Lib.hid (by rw [hg_]; exact Nat.le_refl _)
    clear hg_
    go_wp2_with (refine wpList_store_agg rfl 31 _ _ rfl g7 31 [(.slice none 0 0), (.slice none 0 0), (.bool false)] [(.slice av19x nv19x pv19x), (.slice av19y nv19y pv19y), (.bool false)] rfl rfl hk_ size_pt (by intro v_ hv_; simp only [List.mem_cons, List.not_mem_nil, or_false] at hv_; rcases hv_ with rfl | rfl | rfl <;> first | rfl | exact c19x.one_cell | exact c19y.one_cell) rfl ?_)
    intro w3 hn_ hgr_
    have hk7 := hn_
    have hb := hbA_.grown hgr_ hbA_.size (by intro k_ hk_; cases hk_; exact HGE_.out)
    clear hn_ hgr_ hk_ hbA_ HGE_
    replace hB := hB.trans (hb.mono hB.size)
    replace c19x := c19x.below hb
    replace c19y := c19y.below hb
    clear hb
    by_cases h64 : sig.length = 64
    · skip
      have H64 := Lib.hid h64
      obtain ⟨adr, sdr, rdr⟩ := hs.from (P := Tryz.prog) (T := 22) (E := 5) Tryz.underlying22 size8 32 (by omega)
      have rto := fun W => run_to (P := Tryz.prog) W 22 5 Tryz.underlying22 size8 as_ sig.length cs 32 (by have := hs.le; omega) 32 rfl
      have std := hs.take 32
      have scell := Lib.hid (fun (i : Nat) (hi : i < 32) W (h : Below w.heap.size w W) => (hs.below h).cells)
      rw [h64] at rdr rto ⊢
      rw [show ((32 : Nat) : Int) = 32 from rfl] at rdr
      rw [show (64 - 32 : Nat) = 32 from rfl] at rdr
      have hl1 : (sig.drop 32).length = 32 := by rw [List.length_drop, h64]
      have hl2 : (sig.take 32).length = 32 := by rw [List.length_take, h64]; rfl
      have ud : U8 (sig.drop 32) := us.drop (by omega) 32
      have ut : U8 (sig.take 32) := us.take (by omega) 32
      have LI := fun W (h : Below w.heap.size w W) => Little_can (sdr.below h) ud (by rw [hl1]; omega)
      rw [hl1] at LI
      obtain ⟨S, hS_⟩ : ∃ S, S = lnum (sig.drop 32) := ⟨_, rfl⟩
      rw [← hS_] at LI
      have HL2 := Lib.hid hl2
      have HS := Lib.hid hS_
      have HD := Lib.hid hd
      clear hl1 hl2 hS_ ud sdr scell h64 hd
      by_cases hsl : S < eL
      · skip
        have HX := Lib.hid (cmpI_lt hsl)
        have HSL := Lib.hid hsl
        clear hsl
        go_wp2_with fail
        refine (LI _ hB).mono ?_; rintro e_ w4 ⟨v29, rfl, c29, hb⟩
        replace hB := hB.trans (hb.mono hB.size)
        replace c19x := c19x.below hb
        replace c19y := c19y.below hb
        replace hk7 := hk7.keep hb
        clear hb
        go_wp2_with fail
        refine (rL_c w4).mono ?_; rintro e_ w5 ⟨v31, rfl, c31, hb⟩
        replace hB := hB.trans (hb.mono hB.size)
        replace c19x := c19x.below hb
        replace c19y := c19y.below hb
        replace hk7 := hk7.keep hb
        replace c29 := c29.below hb
        clear hb
        have h_ := cmp7_v c29.num c31.num
        rw [HX.out] at h_
        go_wp2_with fail
        refine (h_).mono ?_; rintro e_ w6 ⟨rfl, rfl⟩
        clear h_
        clear c31
        have hF := Below.refl w5.heap.size w5
        have c_ := (std.below hB).cells
        go_wp2_with (at_builtin; refine wpList_append_new _ rfl _ _ 22 rfl w5.heap.size 5 .u8 1 Tryz.underlying22 info8a _ [] rfl (New.nil _ _ _ _) _ _ _ (sig.take 32) rfl HL2.out.symm c_ (by have := HL2.out; simp; omega) (by have := HL2.out; simp; omega) hF.size ?_)
        intro y1 w6 n1 hg_ _
        replace hF : Below w5.heap.size w5 w6 := hF.grown hg_ hF.size fun g hg => by simp [Value.ownBlock] at hg
        clear hg_
        clear c_
        replace n1 : New w5.heap.size .u8 5 w6 y1 (sig.take 32) := n1
        have c_ := ((hp.below hB).below hF).cells
        go_wp2_with (at_builtin; refine wpList_append_new _ rfl _ _ 22 rfl w5.heap.size 5 .u8 1 Tryz.underlying22 info8a _ (sig.take 32) rfl n1 _ _ _ pub rfl rfl c_ (by have := HL2.out; have := lp.out; omega) (by have := HL2.out; have := lp.out; omega) hF.size ?_)
        intro y2 w7 n2 hg_ _
        replace hF : Below w5.heap.size w5 w7 := hF.grown hg_ hF.size fun g hg => (n1.lt g hg).1
        clear hg_ n1
        clear c_
        obtain ⟨Z, hZ_⟩ : ∃ Z, Z = sig.take 32 ++ pub := ⟨_, rfl⟩
        rw [← hZ_] at n2
        have LZ : Hid (Z.length ≤ 2097184) := Lib.hid (by rw [hZ_, List.length_append, HL2.out]; have := lp.out; omega)
        have HZ := Lib.hid hZ_
        clear hZ_
        have c_ := ((hm.below hB).below hF).cells
        go_wp2_with (at_builtin; refine wpList_append_new _ rfl _ _ 22 rfl w5.heap.size 5 .u8 1 Tryz.underlying22 info8a _ Z rfl n2 _ _ _ msg rfl rfl c_ (by have := LZ.out; have := lm.out; omega) (by have := LZ.out; have := lm.out; omega) hF.size ?_)
        intro y3 w8 n3 hg_ _
        replace hF : Below w5.heap.size w5 w8 := hF.grown hg_ hF.size fun g hg => (n2.lt g hg).1
        clear hg_ n2
        clear c_
        obtain ⟨Y, hY_⟩ : ∃ Y, Y = Z ++ msg := ⟨_, rfl⟩
        rw [← hY_] at n3
        have LY : Hid (Y.length ≤ 4194336) := Lib.hid (by rw [hY_, List.length_append]; have := LZ.out; have := lm.out; omega)
        have UY : U8 Y := by rw [hY_, HZ.out]; exact (ut.append (by omega) up).append (by omega) um
        have HY : Hid (Y = sig.take 32 ++ pub ++ msg) := Lib.hid (by rw [hY_, HZ.out])
        clear hY_ LZ HZ
        obtain ⟨aY, qY, rfl, sY⟩ := n3.sl
        clear n3
        have hb := hF
        replace hB := hB.trans (hb.mono hB.size)
        replace c19x := c19x.below hb
        replace c19y := c19y.below hb
        replace hk7 := hk7.keep hb
        replace c29 := c29.below hb
        clear hb hF
        have h_ := rSum_c 3 aY qY Y w8 sY UY (by have := LY.out; omega) (ht.below hB)
        unfold BytesPost at h_
        obtain ⟨D, hD⟩ : ∃ D, D = sha 3 Y := ⟨_, rfl⟩
        rw [← hD] at h_
        have lD : Hid (D.length = 64) := Lib.hid (by rw [hD, sha_len]; rfl)
        have uD : U8 D := by rw [hD]; exact sha_u8 _ _
        have HDD := Lib.hid hD
        clear hD
        go_wp2_with fail
        refine (h_).mono ?_; rintro e_ w9 ⟨v39, rfl, hn, hb⟩
        obtain ⟨aD, qD, rfl, sD⟩ := hn.sl
        clear hn
        replace hB := hB.trans (hb.mono hB.size)
        replace c19x := c19x.below hb
        replace c19y := c19y.below hb
        replace hk7 := hk7.keep hb
        replace c29 := c29.below hb
        replace sY := sY.below hb
        clear hb h_
        have h_ := Little_can sD uD (by rw [lD.out]; omega)
        rw [lD.out] at h_ ⊢
        go_wp2_with fail
        refine (h_).mono ?_; rintro e_ w10 ⟨v47, rfl, c47, hb⟩
        replace hB := hB.trans (hb.mono hB.size)
        replace c19x := c19x.below hb
        replace c19y := c19y.below hb
        replace hk7 := hk7.keep hb
        replace c29 := c29.below hb
        replace sY := sY.below hb
        replace sD := sD.below hb
        clear hb h_
        go_wp2_with fail
        refine (rL_c w10).mono ?_; rintro e_ w11 ⟨v48, rfl, c48, hb⟩
        replace hB := hB.trans (hb.mono hB.size)
        replace c19x := c19x.below hb
        replace c19y := c19y.below hb
        replace hk7 := hk7.keep hb
        replace c29 := c29.below hb
        replace sY := sY.below hb
        replace sD := sD.below hb
        replace c47 := c47.below hb
        clear hb
        have h_ := divide_v c47.num c48.num eL_pos
        unfold Div7Post at h_
        obtain ⟨kz, hK_⟩ : ∃ kz, kz = lnum D % eL := ⟨_, rfl⟩
        rw [← hK_] at h_
        have HK : Hid (kz = chal (sig.take 32) pub msg) := Lib.hid (by rw [hK_, HDD.out, HY.out]; rfl)
        have klim : Lim 8 kz := by rw [hK_]; exact lim_eL.le (Nat.le_of_lt (Nat.mod_lt _ eL_pos))
        clear hK_
        go_wp2_with fail
        refine (h_).mono ?_; rintro e_ w12 ⟨v49q, v49r, rfl, _, hn, hb⟩
        have c49 := hn.can klim (by omega)
        clear hn
        replace hB := hB.trans (hb.mono hB.size)
        replace c19x := c19x.below hb
        replace c19y := c19y.below hb
        replace hk7 := hk7.keep hb
        replace c29 := c29.below hb
        replace sY := sY.below hb
        replace sD := sD.below hb
        replace c47 := c47.below hb
        replace c48 := c48.below hb
        clear hb h_
        clear sY
        clear sD
        clear c47
        clear c48
        have hR := Below.refl w12.heap.size w12
        go_upto_region 14 with fail
        go_cut [13] (fun p wx => PtVar w12 (eNeg A) p wx)
        case first =>
          have cAy := c19y
          have cAy0 := c19y
          clear c29
          clear c49
          go_wp2_with fail
          refine wp_region_held_drew (S := fun W_ => Rw W_ g7 31 [(.slice av19x nv19x pv19x), (.slice av19y nv19y pv19y), (.bool false)]) (by kernel_rfl) (hk7) (fun hS => ?_)
          have hb := below_drewN (Below.refl w12.heap.size w12) 1
          obtain ⟨w13, hw_⟩ : ∃ x, x = World.drew w12 := ⟨_, rfl⟩
          rw [show World.drewN w12 1 = w13 from hw_.symm] at hb
          rw [← hw_] at hS ⊢
          clear hw_
          replace hB := hB.trans (hb.mono hB.size)
          replace c19x := c19x.below hb
          replace c19y := c19y.below hb
          replace hk7 := hk7.keep hb
          replace hR := hR.trans (hb.mono hR.size)
          clear hb
          refine wpAnyH_take (i := 1) (v := ?_) rfl (by kernel_rfl) (by kernel_rfl) (by kernel_rfl) (fun _ _ _ h => h) (Or.inl ⟨by rfl, ?_⟩) hS ?_
          rotate_left
          · intro w _; go_simp; try with_reducible rfl
          simp only [List.getElem_toArray, List.getElem_cons_zero, List.getElem_cons_succ, Act.put, List.setIfInBounds_toArray, List.set_cons_zero, List.set_cons_succ]
          refine wpAnyH_take (i := 2) (v := ?_) rfl (by kernel_rfl) (by kernel_rfl) (by kernel_rfl) (fun _ _ _ h => h) (Or.inl ⟨by rfl, ?_⟩) hS ?_
          rotate_left
          · intro W_ hW_; have c_ := Rw.cell hW_ 0 rfl; go_simp; try with_reducible rfl
          simp only [List.getElem_toArray, List.getElem_cons_zero, List.getElem_cons_succ, Act.put, List.setIfInBounds_toArray, List.set_cons_zero, List.set_cons_succ]
          refine wpAnyH_take (i := 5) (v := ?_) rfl (by kernel_rfl) (by kernel_rfl) (by kernel_rfl) (fun _ _ _ h => h) (Or.inl ⟨by rfl, ?_⟩) hS ?_
          rotate_left
          · intro w _; go_simp; try with_reducible rfl
          simp only [List.getElem_toArray, List.getElem_cons_zero, List.getElem_cons_succ, Act.put, List.setIfInBounds_toArray, List.set_cons_zero, List.set_cons_succ]
          refine wpAnyH_take (i := 6) (v := ?_) rfl (by kernel_rfl) (by kernel_rfl) (by kernel_rfl) (fun _ _ _ h => h) (Or.inl ⟨by rfl, ?_⟩) hS ?_
          rotate_left
          · intro W_ hW_; have c_ := Rw.cell hW_ 1 rfl; go_simp; try with_reducible rfl
          simp only [List.getElem_toArray, List.getElem_cons_zero, List.getElem_cons_succ, Act.put, List.setIfInBounds_toArray, List.set_cons_zero, List.set_cons_succ]
          refine wpAnyH_ready (rs := [0, 8]) (by kernel_rfl) (by simp) ?_
          refine AllReadyH.cons rfl (fun K hK => ?_) (AllReadyH.cons rfl (fun K hK => ?_) AllReadyH.nil) <;> rw [if_pos (by rfl)] <;> simp only [List.getElem_toArray, List.getElem_cons_zero, List.getElem_cons_succ]
          · skip
            go_simp
            refine (rP_c w13).mono ?_; rintro e_ w14 ⟨v52, rfl, c52, hb⟩
            dsimp only
            replace hB := hB.trans (hb.mono hB.size)
            replace c19x := c19x.below hb
            replace c19y := c19y.below hb
            replace hk7 := hk7.keep hb
            replace hR := hR.trans (hb.mono hR.size)
            clear hb
            refine hK.out _ _ hk7 (fun hS => ?_)
            refine wpAnyH_ready (rs := [3, 8]) (by kernel_rfl) (by simp) ?_
            refine AllReadyH.cons rfl (fun K hK => ?_) (AllReadyH.cons rfl (fun K hK => ?_) AllReadyH.nil) <;> rw [if_pos (by rfl)] <;> simp only [List.getElem_toArray, List.getElem_cons_zero, List.getElem_cons_succ]
            · skip
              have h_ := minus7_v c52.num c19x.num (Nat.le_of_lt A.1.isLt)
              go_simp
              refine (h_).mono ?_; rintro e_ w15 ⟨v55, rfl, hn, hb⟩
              dsimp only
              have c55 := hn.can (lim_eP.le (Nat.sub_le _ _)) (by omega)
              clear hn
              replace hB := hB.trans (hb.mono hB.size)
              replace c19x := c19x.below hb
              replace c19y := c19y.below hb
              replace hk7 := hk7.keep hb
              replace hR := hR.trans (hb.mono hR.size)
              replace c52 := c52.below hb
              clear hb h_
              refine hK.out _ _ hk7 (fun hS => ?_)
              refine wpAnyH_ready (rs := [4, 8]) (by kernel_rfl) (by simp) ?_
              refine AllReadyH.cons rfl (fun K hK => ?_) (AllReadyH.cons rfl (fun K hK => ?_) AllReadyH.nil) <;> rw [if_pos (by rfl)] <;> simp only [List.getElem_toArray, List.getElem_cons_zero, List.getElem_cons_succ]
              · skip
                have h_ := low_c c55
                rw [neg_low] at h_
                go_simp
                refine (h_).mono ?_; rintro e_ w16 ⟨v56, rfl, hn, hb⟩
                dsimp only
                have c56 := hn.fp
                have r56 := hn.mono (Nat.zero_le _)
                have off_r56_7 := NatRes.off_new hn hk7.lt
                replace hB := hB.trans (hb.mono hB.size)
                replace c19x := c19x.below hb
                replace c19y := c19y.below hb
                replace hk7 := hk7.keep hb
                replace hR := hR.trans (hb.mono hR.size)
                replace c52 := c52.below hb
                replace c55 := c55.below hb
                clear hb hn h_
                refine hK.out _ _ hk7 (fun hS => ?_)
                refine wpAnyH_ready (rs := [7, 8]) (by kernel_rfl) (by simp) ?_
                refine AllReadyH.cons rfl (fun K hK => ?_) (AllReadyH.cons rfl (fun K hK => ?_) AllReadyH.nil) <;> rw [if_pos (by rfl)] <;> simp only [List.getElem_toArray, List.getElem_cons_zero, List.getElem_cons_succ]
                · skip
                  obtain ⟨a56_, n56_, p56_, rfl⟩ := c56.sliced
                  go_simp
                  refine hK.out _ _ hS (fun hS => ?_)
                  refine wpAnyH_ready (rs := [8]) (by kernel_rfl) (by simp) ?_
                  refine AllReadyH.cons rfl (fun K hK => ?_) AllReadyH.nil
                  rw [if_pos (by rfl)]
                  simp only [List.getElem_toArray, List.getElem_cons_zero, List.getElem_cons_succ]
                  refine wp_alloc_agg 31 rfl [(.slice none 0 0), (.slice none 0 0), (.bool false)] 3 (by kernel_rfl) ?_
                  intro w17 hk13 hb
                  have hz_ := hB.size
                  have hR0_ := hR.size
                  have lt7_ := hk7.lt
                  have off_r56_13 := NatRes.off_old r56
                  replace hB := hB.trans (hb.mono hB.size)
                  replace c19x := c19x.below hb
                  replace c19y := c19y.below hb
                  replace hk7 := hk7.keep hb
                  replace hR := hR.trans (hb.mono hR.size)
                  replace c52 := c52.below hb
                  replace c55 := c55.below hb
                  replace c56 := c56.below hb
                  replace r56 := r56.below hb
                  clear hb
                  obtain ⟨g13, hg_⟩ : ∃ g, g = w16.heap.size := ⟨_, rfl⟩
                  rw [← hg_] at hk13 off_r56_13 ⊢
                  have HG13 : Hid (w.heap.size ≤ g13) := Lib.hid (by rw [hg_]; exact hz_)
                  have NE7_13 : Hid (g7 ≠ g13) := Lib.hid (by rw [hg_]; exact Nat.ne_of_lt lt7_)
                  have HR_ : Hid (w12.heap.size ≤ g13) := Lib.hid (by rw [hg_]; exact hR0_)
                  clear hR0_
                  clear hg_ hz_ lt7_
                  refine hK.out _ _ hk7 (fun hS => ?_)
                  refine wpAnyH_ready (rs := [9]) (by kernel_rfl) (by simp) ?_
                  refine AllReadyH.cons rfl (fun K hK => ?_) AllReadyH.nil
                  rw [if_pos (by rfl)]
                  simp only [List.getElem_toArray, List.getElem_cons_zero, List.getElem_cons_succ]
                  refine wp_store_agg 31 _ _ rfl g13 31 [(.slice none 0 0), (.slice none 0 0), (.bool false)] [(.slice a56_ n56_ p56_), (.slice av19y nv19y pv19y), (.bool false)] rfl rfl hk13 size_pt (by intro v_ hv_; simp only [List.mem_cons, List.not_mem_nil, or_false] at hv_; rcases hv_ with rfl | rfl | rfl <;> first | rfl | exact c56.one_cell | exact c19y.one_cell) rfl ?_
                  intro w18 hn hg
                  replace hB := hB.grown hg hB.size (by intro k_ hk_; cases hk_; exact HG13.out)
                  clear c19x
                  clear c19y
                  replace hk7 := hk7.grown hg (fun e_ => NE7_13.out (Option.some.inj e_))
                  replace hR := hR.grown hg hR.size (by intro k_ hk_; cases hk_; exact HR_.out)
                  clear c52
                  clear c55
                  clear c56
                  replace r56 := r56.off off_r56_13 hg
                  replace hk13 := hn
                  clear hn hg
                  refine hK.out _ _ hk7 (fun hS => ?_)
                  refine wpAnyH_done (by kernel_rfl) ?_ _
                  clear hS
                  go_wp2_with fail
                  go_meet
                  exact ⟨_, _, _, rfl, hk13, r56.fp, cAy0.below hR, HR_.out, hR⟩
                · skip
                  refine wp_alloc_agg 31 rfl [(.slice none 0 0), (.slice none 0 0), (.bool false)] 3 (by kernel_rfl) ?_
                  intro w17 hk13 hb
                  have hz_ := hB.size
                  have hR0_ := hR.size
                  have lt7_ := hk7.lt
                  have off_r56_13 := NatRes.off_old r56
                  replace hB := hB.trans (hb.mono hB.size)
                  replace c19x := c19x.below hb
                  replace c19y := c19y.below hb
                  replace hk7 := hk7.keep hb
                  replace hR := hR.trans (hb.mono hR.size)
                  replace c52 := c52.below hb
                  replace c55 := c55.below hb
                  replace c56 := c56.below hb
                  replace r56 := r56.below hb
                  clear hb
                  obtain ⟨g13, hg_⟩ : ∃ g, g = w16.heap.size := ⟨_, rfl⟩
                  rw [← hg_] at hk13 off_r56_13 ⊢
                  have HG13 : Hid (w.heap.size ≤ g13) := Lib.hid (by rw [hg_]; exact hz_)
                  have NE7_13 : Hid (g7 ≠ g13) := Lib.hid (by rw [hg_]; exact Nat.ne_of_lt lt7_)
                  have HR_ : Hid (w12.heap.size ≤ g13) := Lib.hid (by rw [hg_]; exact hR0_)
                  clear hR0_
                  clear hg_ hz_ lt7_
                  refine hK.out _ _ hk7 (fun hS => ?_)
                  obtain ⟨a56_, n56_, p56_, rfl⟩ := c56.sliced
                  refine wpAnyH_ready (rs := [7]) (by kernel_rfl) (by simp) ?_
                  refine AllReadyH.cons rfl (fun K hK => ?_) AllReadyH.nil
                  rw [if_pos (by rfl)]
                  simp only [List.getElem_toArray, List.getElem_cons_zero, List.getElem_cons_succ]
                  go_simp
                  refine hK.out _ _ hS (fun hS => ?_)
                  refine wpAnyH_ready (rs := [9]) (by kernel_rfl) (by simp) ?_
                  refine AllReadyH.cons rfl (fun K hK => ?_) AllReadyH.nil
                  rw [if_pos (by rfl)]
                  simp only [List.getElem_toArray, List.getElem_cons_zero, List.getElem_cons_succ]
                  refine wp_store_agg 31 _ _ rfl g13 31 [(.slice none 0 0), (.slice none 0 0), (.bool false)] [(.slice a56_ n56_ p56_), (.slice av19y nv19y pv19y), (.bool false)] rfl rfl hk13 size_pt (by intro v_ hv_; simp only [List.mem_cons, List.not_mem_nil, or_false] at hv_; rcases hv_ with rfl | rfl | rfl <;> first | rfl | exact c56.one_cell | exact c19y.one_cell) rfl ?_
                  intro w18 hn hg
                  replace hB := hB.grown hg hB.size (by intro k_ hk_; cases hk_; exact HG13.out)
                  clear c19x
                  clear c19y
                  replace hk7 := hk7.grown hg (fun e_ => NE7_13.out (Option.some.inj e_))
                  replace hR := hR.grown hg hR.size (by intro k_ hk_; cases hk_; exact HR_.out)
                  clear c52
                  clear c55
                  clear c56
                  replace r56 := r56.off off_r56_13 hg
                  replace hk13 := hn
                  clear hn hg
                  refine hK.out _ _ hk7 (fun hS => ?_)
                  refine wpAnyH_done (by kernel_rfl) ?_ _
                  clear hS
                  go_wp2_with fail
                  go_meet
                  exact ⟨_, _, _, rfl, hk13, r56.fp, cAy0.below hR, HR_.out, hR⟩
              · skip
                refine wp_alloc_agg 31 rfl [(.slice none 0 0), (.slice none 0 0), (.bool false)] 3 (by kernel_rfl) ?_
                intro w16 hk13 hb
                have hz_ := hB.size
                have hR0_ := hR.size
                have lt7_ := hk7.lt
                replace hB := hB.trans (hb.mono hB.size)
                replace c19x := c19x.below hb
                replace c19y := c19y.below hb
                replace hk7 := hk7.keep hb
                replace hR := hR.trans (hb.mono hR.size)
                replace c52 := c52.below hb
                replace c55 := c55.below hb
                clear hb
                obtain ⟨g13, hg_⟩ : ∃ g, g = w15.heap.size := ⟨_, rfl⟩
                rw [← hg_] at hk13 ⊢
                have HG13 : Hid (w.heap.size ≤ g13) := Lib.hid (by rw [hg_]; exact hz_)
                have NE7_13 : Hid (g7 ≠ g13) := Lib.hid (by rw [hg_]; exact Nat.ne_of_lt lt7_)
                have HR_ : Hid (w12.heap.size ≤ g13) := Lib.hid (by rw [hg_]; exact hR0_)
                clear hR0_
                clear hg_ hz_ lt7_
                refine hK.out _ _ hk7 (fun hS => ?_)
                have h_ := low_c c55
                rw [neg_low] at h_
                refine wpAnyH_ready (rs := [4]) (by kernel_rfl) (by simp) ?_
                refine AllReadyH.cons rfl (fun K hK => ?_) AllReadyH.nil
                rw [if_pos (by rfl)]
                simp only [List.getElem_toArray, List.getElem_cons_zero, List.getElem_cons_succ]
                go_simp
                refine (h_).mono ?_; rintro e_ w17 ⟨v56, rfl, hn, hb⟩
                dsimp only
                have c56 := hn.fp
                have r56 := hn.mono (Nat.zero_le _)
                have off_r56_7 := NatRes.off_new hn hk7.lt
                have off_r56_13 := NatRes.off_new hn hk13.lt
                replace hB := hB.trans (hb.mono hB.size)
                replace c19x := c19x.below hb
                replace c19y := c19y.below hb
                replace hk7 := hk7.keep hb
                replace hR := hR.trans (hb.mono hR.size)
                replace c52 := c52.below hb
                replace c55 := c55.below hb
                replace hk13 := hk13.keep hb
                clear hb hn h_
                refine hK.out _ _ hk7 (fun hS => ?_)
                obtain ⟨a56_, n56_, p56_, rfl⟩ := c56.sliced
                refine wpAnyH_ready (rs := [7]) (by kernel_rfl) (by simp) ?_
                refine AllReadyH.cons rfl (fun K hK => ?_) AllReadyH.nil
                rw [if_pos (by rfl)]
                simp only [List.getElem_toArray, List.getElem_cons_zero, List.getElem_cons_succ]
                go_simp
                refine hK.out _ _ hS (fun hS => ?_)
                refine wpAnyH_ready (rs := [9]) (by kernel_rfl) (by simp) ?_
                refine AllReadyH.cons rfl (fun K hK => ?_) AllReadyH.nil
                rw [if_pos (by rfl)]
                simp only [List.getElem_toArray, List.getElem_cons_zero, List.getElem_cons_succ]
                refine wp_store_agg 31 _ _ rfl g13 31 [(.slice none 0 0), (.slice none 0 0), (.bool false)] [(.slice a56_ n56_ p56_), (.slice av19y nv19y pv19y), (.bool false)] rfl rfl hk13 size_pt (by intro v_ hv_; simp only [List.mem_cons, List.not_mem_nil, or_false] at hv_; rcases hv_ with rfl | rfl | rfl <;> first | rfl | exact c56.one_cell | exact c19y.one_cell) rfl ?_
                intro w18 hn hg
                replace hB := hB.grown hg hB.size (by intro k_ hk_; cases hk_; exact HG13.out)
                clear c19x
                clear c19y
                replace hk7 := hk7.grown hg (fun e_ => NE7_13.out (Option.some.inj e_))
                replace hR := hR.grown hg hR.size (by intro k_ hk_; cases hk_; exact HR_.out)
                clear c52
                clear c55
                replace hk13 := hn
                clear c56
                replace r56 := r56.off off_r56_13 hg
                clear hn hg
                refine hK.out _ _ hk7 (fun hS => ?_)
                refine wpAnyH_done (by kernel_rfl) ?_ _
                clear hS
                go_wp2_with fail
                go_meet
                exact ⟨_, _, _, rfl, hk13, r56.fp, cAy0.below hR, HR_.out, hR⟩
            · skip
              refine wp_alloc_agg 31 rfl [(.slice none 0 0), (.slice none 0 0), (.bool false)] 3 (by kernel_rfl) ?_
              intro w15 hk13 hb
              have hz_ := hB.size
              have hR0_ := hR.size
              have lt7_ := hk7.lt
              replace hB := hB.trans (hb.mono hB.size)
              replace c19x := c19x.below hb
              replace c19y := c19y.below hb
              replace hk7 := hk7.keep hb
              replace hR := hR.trans (hb.mono hR.size)
              replace c52 := c52.below hb
              clear hb
              obtain ⟨g13, hg_⟩ : ∃ g, g = w14.heap.size := ⟨_, rfl⟩
              rw [← hg_] at hk13 ⊢
              have HG13 : Hid (w.heap.size ≤ g13) := Lib.hid (by rw [hg_]; exact hz_)
              have NE7_13 : Hid (g7 ≠ g13) := Lib.hid (by rw [hg_]; exact Nat.ne_of_lt lt7_)
              have HR_ : Hid (w12.heap.size ≤ g13) := Lib.hid (by rw [hg_]; exact hR0_)
              clear hR0_
              clear hg_ hz_ lt7_
              refine hK.out _ _ hk7 (fun hS => ?_)
              have h_ := minus7_v c52.num c19x.num (Nat.le_of_lt A.1.isLt)
              refine wpAnyH_ready (rs := [3]) (by kernel_rfl) (by simp) ?_
              refine AllReadyH.cons rfl (fun K hK => ?_) AllReadyH.nil
              rw [if_pos (by rfl)]
              simp only [List.getElem_toArray, List.getElem_cons_zero, List.getElem_cons_succ]
              go_simp
              refine (h_).mono ?_; rintro e_ w16 ⟨v55, rfl, hn, hb⟩
              dsimp only
              have c55 := hn.can (lim_eP.le (Nat.sub_le _ _)) (by omega)
              clear hn
              replace hB := hB.trans (hb.mono hB.size)
              replace c19x := c19x.below hb
              replace c19y := c19y.below hb
              replace hk7 := hk7.keep hb
              replace hR := hR.trans (hb.mono hR.size)
              replace c52 := c52.below hb
              replace hk13 := hk13.keep hb
              clear hb h_
              refine hK.out _ _ hk7 (fun hS => ?_)
              have h_ := low_c c55
              rw [neg_low] at h_
              refine wpAnyH_ready (rs := [4]) (by kernel_rfl) (by simp) ?_
              refine AllReadyH.cons rfl (fun K hK => ?_) AllReadyH.nil
              rw [if_pos (by rfl)]
              simp only [List.getElem_toArray, List.getElem_cons_zero, List.getElem_cons_succ]
              go_simp
              refine (h_).mono ?_; rintro e_ w17 ⟨v56, rfl, hn, hb⟩
              dsimp only
              have c56 := hn.fp
              have r56 := hn.mono (Nat.zero_le _)
              have off_r56_7 := NatRes.off_new hn hk7.lt
              have off_r56_13 := NatRes.off_new hn hk13.lt
              replace hB := hB.trans (hb.mono hB.size)
              replace c19x := c19x.below hb
              replace c19y := c19y.below hb
              replace hk7 := hk7.keep hb
              replace hR := hR.trans (hb.mono hR.size)
              replace c52 := c52.below hb
              replace hk13 := hk13.keep hb
              replace c55 := c55.below hb
              clear hb hn h_
              refine hK.out _ _ hk7 (fun hS => ?_)
              obtain ⟨a56_, n56_, p56_, rfl⟩ := c56.sliced
              refine wpAnyH_ready (rs := [7]) (by kernel_rfl) (by simp) ?_
              refine AllReadyH.cons rfl (fun K hK => ?_) AllReadyH.nil
              rw [if_pos (by rfl)]
              simp only [List.getElem_toArray, List.getElem_cons_zero, List.getElem_cons_succ]
              go_simp
              refine hK.out _ _ hS (fun hS => ?_)
              refine wpAnyH_ready (rs := [9]) (by kernel_rfl) (by simp) ?_
              refine AllReadyH.cons rfl (fun K hK => ?_) AllReadyH.nil
              rw [if_pos (by rfl)]
              simp only [List.getElem_toArray, List.getElem_cons_zero, List.getElem_cons_succ]
              refine wp_store_agg 31 _ _ rfl g13 31 [(.slice none 0 0), (.slice none 0 0), (.bool false)] [(.slice a56_ n56_ p56_), (.slice av19y nv19y pv19y), (.bool false)] rfl rfl hk13 size_pt (by intro v_ hv_; simp only [List.mem_cons, List.not_mem_nil, or_false] at hv_; rcases hv_ with rfl | rfl | rfl <;> first | rfl | exact c56.one_cell | exact c19y.one_cell) rfl ?_
              intro w18 hn hg
              replace hB := hB.grown hg hB.size (by intro k_ hk_; cases hk_; exact HG13.out)
              clear c19x
              clear c19y
              replace hk7 := hk7.grown hg (fun e_ => NE7_13.out (Option.some.inj e_))
              replace hR := hR.grown hg hR.size (by intro k_ hk_; cases hk_; exact HR_.out)
              clear c52
              replace hk13 := hn
              clear c55
              clear c56
              replace r56 := r56.off off_r56_13 hg
              clear hn hg
              refine hK.out _ _ hk7 (fun hS => ?_)
              refine wpAnyH_done (by kernel_rfl) ?_ _
              clear hS
              go_wp2_with fail
              go_meet
              exact ⟨_, _, _, rfl, hk13, r56.fp, cAy0.below hR, HR_.out, hR⟩
          · skip
            refine wp_alloc_agg 31 rfl [(.slice none 0 0), (.slice none 0 0), (.bool false)] 3 (by kernel_rfl) ?_
            intro w14 hk13 hb
            have hz_ := hB.size
            have hR0_ := hR.size
            have lt7_ := hk7.lt
            replace hB := hB.trans (hb.mono hB.size)
            replace c19x := c19x.below hb
            replace c19y := c19y.below hb
            replace hk7 := hk7.keep hb
            replace hR := hR.trans (hb.mono hR.size)
            clear hb
            obtain ⟨g13, hg_⟩ : ∃ g, g = w13.heap.size := ⟨_, rfl⟩
            rw [← hg_] at hk13 ⊢
            have HG13 : Hid (w.heap.size ≤ g13) := Lib.hid (by rw [hg_]; exact hz_)
            have NE7_13 : Hid (g7 ≠ g13) := Lib.hid (by rw [hg_]; exact Nat.ne_of_lt lt7_)
            have HR_ : Hid (w12.heap.size ≤ g13) := Lib.hid (by rw [hg_]; exact hR0_)
            clear hR0_
            clear hg_ hz_ lt7_
            refine hK.out _ _ hk7 (fun hS => ?_)
            refine wpAnyH_ready (rs := [0]) (by kernel_rfl) (by simp) ?_
            refine AllReadyH.cons rfl (fun K hK => ?_) AllReadyH.nil
            rw [if_pos (by rfl)]
            simp only [List.getElem_toArray, List.getElem_cons_zero, List.getElem_cons_succ]
            go_simp
            refine (rP_c w14).mono ?_; rintro e_ w15 ⟨v52, rfl, c52, hb⟩
            dsimp only
            replace hB := hB.trans (hb.mono hB.size)
            replace c19x := c19x.below hb
            replace c19y := c19y.below hb
            replace hk7 := hk7.keep hb
            replace hR := hR.trans (hb.mono hR.size)
            replace hk13 := hk13.keep hb
            clear hb
            refine hK.out _ _ hk7 (fun hS => ?_)
            have h_ := minus7_v c52.num c19x.num (Nat.le_of_lt A.1.isLt)
            refine wpAnyH_ready (rs := [3]) (by kernel_rfl) (by simp) ?_
            refine AllReadyH.cons rfl (fun K hK => ?_) AllReadyH.nil
            rw [if_pos (by rfl)]
            simp only [List.getElem_toArray, List.getElem_cons_zero, List.getElem_cons_succ]
            go_simp
            refine (h_).mono ?_; rintro e_ w16 ⟨v55, rfl, hn, hb⟩
            dsimp only
            have c55 := hn.can (lim_eP.le (Nat.sub_le _ _)) (by omega)
            clear hn
            replace hB := hB.trans (hb.mono hB.size)
            replace c19x := c19x.below hb
            replace c19y := c19y.below hb
            replace hk7 := hk7.keep hb
            replace hR := hR.trans (hb.mono hR.size)
            replace hk13 := hk13.keep hb
            replace c52 := c52.below hb
            clear hb h_
            refine hK.out _ _ hk7 (fun hS => ?_)
            have h_ := low_c c55
            rw [neg_low] at h_
            refine wpAnyH_ready (rs := [4]) (by kernel_rfl) (by simp) ?_
            refine AllReadyH.cons rfl (fun K hK => ?_) AllReadyH.nil
            rw [if_pos (by rfl)]
            simp only [List.getElem_toArray, List.getElem_cons_zero, List.getElem_cons_succ]
            go_simp
            refine (h_).mono ?_; rintro e_ w17 ⟨v56, rfl, hn, hb⟩
            dsimp only
            have c56 := hn.fp
            have r56 := hn.mono (Nat.zero_le _)
            have off_r56_7 := NatRes.off_new hn hk7.lt
            have off_r56_13 := NatRes.off_new hn hk13.lt
            replace hB := hB.trans (hb.mono hB.size)
            replace c19x := c19x.below hb
            replace c19y := c19y.below hb
            replace hk7 := hk7.keep hb
            replace hR := hR.trans (hb.mono hR.size)
            replace hk13 := hk13.keep hb
            replace c52 := c52.below hb
            replace c55 := c55.below hb
            clear hb hn h_
            refine hK.out _ _ hk7 (fun hS => ?_)
            obtain ⟨a56_, n56_, p56_, rfl⟩ := c56.sliced
            refine wpAnyH_ready (rs := [7]) (by kernel_rfl) (by simp) ?_
            refine AllReadyH.cons rfl (fun K hK => ?_) AllReadyH.nil
            rw [if_pos (by rfl)]
            simp only [List.getElem_toArray, List.getElem_cons_zero, List.getElem_cons_succ]
            go_simp
            refine hK.out _ _ hS (fun hS => ?_)
            refine wpAnyH_ready (rs := [9]) (by kernel_rfl) (by simp) ?_
            refine AllReadyH.cons rfl (fun K hK => ?_) AllReadyH.nil
            rw [if_pos (by rfl)]
            simp only [List.getElem_toArray, List.getElem_cons_zero, List.getElem_cons_succ]
            refine wp_store_agg 31 _ _ rfl g13 31 [(.slice none 0 0), (.slice none 0 0), (.bool false)] [(.slice a56_ n56_ p56_), (.slice av19y nv19y pv19y), (.bool false)] rfl rfl hk13 size_pt (by intro v_ hv_; simp only [List.mem_cons, List.not_mem_nil, or_false] at hv_; rcases hv_ with rfl | rfl | rfl <;> first | rfl | exact c56.one_cell | exact c19y.one_cell) rfl ?_
            intro w18 hn hg
            replace hB := hB.grown hg hB.size (by intro k_ hk_; cases hk_; exact HG13.out)
            clear c19x
            clear c19y
            replace hk7 := hk7.grown hg (fun e_ => NE7_13.out (Option.some.inj e_))
            replace hR := hR.grown hg hR.size (by intro k_ hk_; cases hk_; exact HR_.out)
            replace hk13 := hn
            clear c52
            clear c55
            clear c56
            replace r56 := r56.off off_r56_13 hg
            clear hn hg
            refine hK.out _ _ hk7 (fun hS => ?_)
            refine wpAnyH_done (by kernel_rfl) ?_ _
            clear hS
            go_wp2_with fail
            go_meet
            exact ⟨_, _, _, rfl, hk13, r56.fp, cAy0.below hR, HR_.out, hR⟩
        case rest =>
          obtain ⟨g13, v13x, v13y, rfl, hk13, c13x, c13y, hgx_, hb⟩ := hcut
          obtain ⟨w13, rfl⟩ : ∃ x, x = wc := ⟨_, rfl⟩
          replace hB := hB.trans (hb.mono hB.size)
          replace c19x := c19x.below hb
          replace c19y := c19y.below hb
          replace hk7 := hk7.keep hb
          replace c29 := c29.below hb
          replace c49 := c49.below hb
          clear hb hgx_ hR
          clear hk7
          clear c19x
          clear c19y
          obtain ⟨E, hE_⟩ : ∃ E, E = encB (rOf13 A S kz) := ⟨_, rfl⟩
          have HE := Lib.hid hE_
          have LE : Hid (E.length = 32) := Lib.hid (by rw [hE_]; exact encB_len _)
          clear hE_
          have hR := Below.refl w13.heap.size w13
          go_upto_region 15 with fail
          go_cut [14, 15] (fun p q wx => q = Value.int .i64 0 ∧ ∃ a c, p = Value.slice a 32 c ∧ Sl .u8 wx a c E ∧ Below w13.heap.size w13 wx)
          case first =>
            go_wp2_with fail
            refine wp_region_held_drew (S := fun W_ => Rw W_ g13 31 [v13x, v13y, .bool false]) (by kernel_rfl) (hk13) (fun hS => ?_)
            have hb := below_drewN (Below.refl w13.heap.size w13) 1
            obtain ⟨w14, hw_⟩ : ∃ x, x = World.drew w13 := ⟨_, rfl⟩
            rw [show World.drewN w13 1 = w14 from hw_.symm] at hb
            rw [← hw_] at hS ⊢
            clear hw_
            replace hB := hB.trans (hb.mono hB.size)
            replace c29 := c29.below hb
            replace c49 := c49.below hb
            replace hk13 := hk13.keep hb
            replace c13x := c13x.below hb
            replace c13y := c13y.below hb
            replace hR := hR.trans (hb.mono hR.size)
            clear hb
            refine wpAnyH_take (i := 0) (v := ?_) rfl (by kernel_rfl) (by kernel_rfl) (by kernel_rfl) (fun _ _ _ h => h) (Or.inl ⟨by rfl, ?_⟩) hS ?_
            rotate_left
            · intro w _; go_simp; try with_reducible rfl
            simp only [List.getElem_toArray, List.getElem_cons_zero, List.getElem_cons_succ, Act.put, List.setIfInBounds_toArray, List.set_cons_zero, List.set_cons_succ]
            refine wpAnyH_take (i := 4) (v := ?_) rfl (by kernel_rfl) (by kernel_rfl) (by kernel_rfl) (fun _ _ _ h => h) (Or.inl ⟨by rfl, ?_⟩) hS ?_
            rotate_left
            · intro w _; go_simp; try with_reducible rfl
            simp only [List.getElem_toArray, List.getElem_cons_zero, List.getElem_cons_succ, Act.put, List.setIfInBounds_toArray, List.set_cons_zero, List.set_cons_succ]
            refine wpAnyH_take (i := 5) (v := .agg #[v13x, v13y, .bool false]) rfl (by kernel_rfl) (by kernel_rfl) (by kernel_rfl) (fun _ _ _ h => h) (yieldsIf_load_mid (by rfl) 31 _ rfl g13 0 rfl [v13x, v13y, .bool false] _ (fun W_ hW_ => Rw.range hW_ 0 _ fun j_ v_ hv_ => by rwa [Nat.zero_add]) Tryz.underlying31 rfl size_pt) hS ?_
            simp only [List.getElem_toArray, List.getElem_cons_zero, List.getElem_cons_succ, Act.put, List.setIfInBounds_toArray, List.set_cons_zero, List.set_cons_succ]
            refine wpAnyH_ready (rs := [1]) (by kernel_rfl) (by simp) ?_
            refine AllReadyH.cons rfl (fun K hK => ?_) AllReadyH.nil
            rw [if_pos (by rfl)]
            simp only [List.getElem_toArray, List.getElem_cons_zero, List.getElem_cons_succ]
            go_simp
            refine (rBase_z w14).mono ?_; rintro e_ w15 ⟨_, rfl, ⟨vBx, vBy, rfl, cBx, cBy⟩, hb⟩
            dsimp only
            replace hB := hB.trans (hb.mono hB.size)
            replace c29 := c29.below hb
            replace c49 := c49.below hb
            replace hk13 := hk13.keep hb
            replace c13x := c13x.below hb
            replace c13y := c13y.below hb
            replace hR := hR.trans (hb.mono hR.size)
            clear hb
            refine hK.out _ _ hk13 (fun hS => ?_)
            refine wpAnyH_ready (rs := [2]) (by kernel_rfl) (by simp) ?_
            refine AllReadyH.cons rfl (fun K hK => ?_) AllReadyH.nil
            rw [if_pos (by rfl)]
            simp only [List.getElem_toArray, List.getElem_cons_zero, List.getElem_cons_succ]
            go_simp
            refine (rspot_c (P := eB) ⟨_, _, rfl, cBx.num, cBy.num⟩).mono ?_; rintro e_ w16 ⟨v63, rfl, r63, hb⟩
            dsimp only
            replace r63 := r63.mono (Nat.zero_le _)
            replace hB := hB.trans (hb.mono hB.size)
            replace c29 := c29.below hb
            replace c49 := c49.below hb
            replace hk13 := hk13.keep hb
            replace c13x := c13x.below hb
            replace c13y := c13y.below hb
            replace hR := hR.trans (hb.mono hR.size)
            replace cBx := cBx.below hb
            replace cBy := cBy.below hb
            clear hb
            refine hK.out _ _ hk13 (fun hS => ?_)
            refine wpAnyH_ready (rs := [3]) (by kernel_rfl) (by simp) ?_
            refine AllReadyH.cons rfl (fun K hK => ?_) AllReadyH.nil
            rw [if_pos (by rfl)]
            simp only [List.getElem_toArray, List.getElem_cons_zero, List.getElem_cons_succ]
            go_simp
            refine (rtimes_c r63.at_ (Sp.of_is eB) eB_on c29.num).mono ?_; rintro e_ w17 ⟨v64, sp64, rfl, r64, his, hb⟩
            dsimp only
            have HI64 := Lib.hid his
            clear his
            replace r64 := r64.mono (Nat.zero_le _)
            replace hB := hB.trans (hb.mono hB.size)
            replace c29 := c29.below hb
            replace c49 := c49.below hb
            replace hk13 := hk13.keep hb
            replace c13x := c13x.below hb
            replace c13y := c13y.below hb
            replace hR := hR.trans (hb.mono hR.size)
            replace cBx := cBx.below hb
            replace cBy := cBy.below hb
            replace r63 := r63.below hb
            clear hb
            refine hK.out _ _ hk13 (fun hS => ?_)
            refine wpAnyH_ready (rs := [6]) (by kernel_rfl) (by simp) ?_
            refine AllReadyH.cons rfl (fun K hK => ?_) AllReadyH.nil
            rw [if_pos (by rfl)]
            simp only [List.getElem_toArray, List.getElem_cons_zero, List.getElem_cons_succ]
            go_simp
            refine (rspot_c (P := eNeg A) ⟨_, _, rfl, c13x.num, c13y.num⟩).mono ?_; rintro e_ w18 ⟨v67, rfl, r67, hb⟩
            dsimp only
            replace r67 := r67.mono (Nat.zero_le _)
            replace hB := hB.trans (hb.mono hB.size)
            replace c29 := c29.below hb
            replace c49 := c49.below hb
            replace hk13 := hk13.keep hb
            replace c13x := c13x.below hb
            replace c13y := c13y.below hb
            replace hR := hR.trans (hb.mono hR.size)
            replace cBx := cBx.below hb
            replace cBy := cBy.below hb
            replace r63 := r63.below hb
            replace r64 := r64.below hb
            clear hb
            refine hK.out _ _ hk13 (fun hS => ?_)
            refine wpAnyH_ready (rs := [7]) (by kernel_rfl) (by simp) ?_
            refine AllReadyH.cons rfl (fun K hK => ?_) AllReadyH.nil
            rw [if_pos (by rfl)]
            simp only [List.getElem_toArray, List.getElem_cons_zero, List.getElem_cons_succ]
            go_simp
            refine (rtimes_c r67.at_ (Sp.of_is (eNeg A)) (eNeg_on OA.out) c49.num).mono ?_; rintro e_ w19 ⟨v68, sp68, rfl, r68, his, hb⟩
            dsimp only
            have HI68 := Lib.hid his
            clear his
            replace r68 := r68.mono (Nat.zero_le _)
            replace hB := hB.trans (hb.mono hB.size)
            replace c29 := c29.below hb
            replace c49 := c49.below hb
            replace hk13 := hk13.keep hb
            replace c13x := c13x.below hb
            replace c13y := c13y.below hb
            replace hR := hR.trans (hb.mono hR.size)
            replace cBx := cBx.below hb
            replace cBy := cBy.below hb
            replace r63 := r63.below hb
            replace r64 := r64.below hb
            replace r67 := r67.below hb
            clear hb
            refine hK.out _ _ hk13 (fun hS => ?_)
            refine wpAnyH_ready (rs := [8]) (by kernel_rfl) (by simp) ?_
            refine AllReadyH.cons rfl (fun K hK => ?_) AllReadyH.nil
            rw [if_pos (by rfl)]
            simp only [List.getElem_toArray, List.getElem_cons_zero, List.getElem_cons_succ]
            go_simp
            refine (rsum_c r64.at_ r68.at_).mono ?_; rintro e_ w20 ⟨v69, rfl, r69, hb⟩
            dsimp only
            replace r69 := r69.mono (Nat.zero_le _)
            replace hB := hB.trans (hb.mono hB.size)
            replace c29 := c29.below hb
            replace c49 := c49.below hb
            replace hk13 := hk13.keep hb
            replace c13x := c13x.below hb
            replace c13y := c13y.below hb
            replace hR := hR.trans (hb.mono hR.size)
            replace cBx := cBx.below hb
            replace cBy := cBy.below hb
            replace r63 := r63.below hb
            replace r64 := r64.below hb
            replace r67 := r67.below hb
            replace r68 := r68.below hb
            clear hb
            refine hK.out _ _ hk13 (fun hS => ?_)
            refine wpAnyH_ready (rs := [9]) (by kernel_rfl) (by simp) ?_
            refine AllReadyH.cons rfl (fun K hK => ?_) AllReadyH.nil
            rw [if_pos (by rfl)]
            simp only [List.getElem_toArray, List.getElem_cons_zero, List.getElem_cons_succ]
            go_simp
            refine (rpoint_is r69.at_ (Sp.plus_is HI64.out HI68.out (eMul_on eB_on _) (eMul_on (eNeg_on OA.out) _))).mono ?_; rintro e_ w21 ⟨_, rfl, ⟨vQx, vQy, rfl, h1_, h2_, -⟩, hb⟩
            dsimp only
            have cQx := h1_.fp
            have cQy := h2_.fp
            clear h1_ h2_
            replace hB := hB.trans (hb.mono hB.size)
            replace c29 := c29.below hb
            replace c49 := c49.below hb
            replace hk13 := hk13.keep hb
            replace c13x := c13x.below hb
            replace c13y := c13y.below hb
            replace hR := hR.trans (hb.mono hR.size)
            replace cBx := cBx.below hb
            replace cBy := cBy.below hb
            replace r63 := r63.below hb
            replace r64 := r64.below hb
            replace r67 := r67.below hb
            replace r68 := r68.below hb
            replace r69 := r69.below hb
            clear hb
            refine hK.out _ _ hk13 (fun hS => ?_)
            have h_ := renc_ok (Q := rOf13 A S kz) ⟨_, _, rfl, cQx.num, cQy.num⟩ (eAdd_on (eMul_on eB_on _) (eMul_on (eNeg_on OA.out) _))
            unfold EncOk at h_
            rw [← HE.out] at h_
            refine wpAnyH_ready (rs := [10]) (by kernel_rfl) (by simp) ?_
            refine AllReadyH.cons rfl (fun K hK => ?_) AllReadyH.nil
            rw [if_pos (by rfl)]
            simp only [List.getElem_toArray, List.getElem_cons_zero, List.getElem_cons_succ]
            go_simp
            refine (h_).mono ?_; rintro e_ w22 ⟨v71, rfl, hn, hb⟩
            dsimp only
            obtain ⟨eE, qE, rfl, sE⟩ := hn.sl
            clear hn
            replace hB := hB.trans (hb.mono hB.size)
            replace c29 := c29.below hb
            replace c49 := c49.below hb
            replace hk13 := hk13.keep hb
            replace c13x := c13x.below hb
            replace c13y := c13y.below hb
            replace hR := hR.trans (hb.mono hR.size)
            replace cBx := cBx.below hb
            replace cBy := cBy.below hb
            replace r63 := r63.below hb
            replace r64 := r64.below hb
            replace r67 := r67.below hb
            replace r68 := r68.below hb
            replace r69 := r69.below hb
            replace cQx := cQx.below hb
            replace cQy := cQy.below hb
            clear hb h_
            refine hK.out _ _ hk13 (fun hS => ?_)
            refine wpAnyH_take (i := 11) (v := ?_) rfl (by kernel_rfl) (by kernel_rfl) (by kernel_rfl) (fun _ _ _ h => h) (Or.inl ⟨by rfl, ?_⟩) hS ?_
            rotate_left
            · intro w _; go_simp; try with_reducible rfl
            simp only [List.getElem_toArray, List.getElem_cons_zero, List.getElem_cons_succ, Act.put, List.setIfInBounds_toArray, List.set_cons_zero, List.set_cons_succ]
            refine wpAnyH_take (i := 12) (v := ?_) rfl (by kernel_rfl) (by kernel_rfl) (by kernel_rfl) (fun _ _ _ h => h) (Or.inl ⟨by rfl, ?_⟩) hS ?_
            rotate_left
            · intro w _; go_simp; try with_reducible rfl
            simp only [List.getElem_toArray, List.getElem_cons_zero, List.getElem_cons_succ, Act.put, List.setIfInBounds_toArray, List.set_cons_zero, List.set_cons_succ]
            refine wpAnyH_take (i := 13) (v := ?_) rfl (by kernel_rfl) (by kernel_rfl) (by kernel_rfl) (fun _ _ _ h => h) (Or.inl ⟨by rfl, ?_⟩) hS ?_
            rotate_left
            · intro w _; go_simp; try with_reducible rfl
            simp only [List.getElem_toArray, List.getElem_cons_zero, List.getElem_cons_succ, Act.put, List.setIfInBounds_toArray, List.set_cons_zero, List.set_cons_succ]
            refine wpAnyH_ready (rs := [14]) (by kernel_rfl) (by simp) ?_
            refine AllReadyH.cons rfl (fun K hK => ?_) AllReadyH.nil
            rw [if_pos (by rfl)]
            simp only [List.getElem_toArray, List.getElem_cons_zero, List.getElem_cons_succ]
            go_simp
            refine hK.out _ _ hS (fun hS => ?_)
            refine wpAnyH_ready (rs := [15]) (by kernel_rfl) (by simp) ?_
            refine AllReadyH.cons rfl (fun K hK => ?_) AllReadyH.nil
            rw [if_pos (by rfl)]
            simp only [List.getElem_toArray, List.getElem_cons_zero, List.getElem_cons_succ]
            go_simp
            refine hK.out _ _ hS (fun hS => ?_)
            refine wpAnyH_done (by kernel_rfl) ?_ _
            clear hS
            go_wp2_with fail
            go_meet
            exact ⟨rfl, eE, qE, by rw [LE.out], sE, hR⟩
          case rest =>
            obtain ⟨rfl, eE, qE, rfl, sE, hb⟩ := hcut
            obtain ⟨w14, rfl⟩ : ∃ x, x = wc := ⟨_, rfl⟩
            replace hB := hB.trans (hb.mono hB.size)
            replace c29 := c29.below hb
            replace c49 := c49.below hb
            replace hk13 := hk13.keep hb
            replace c13x := c13x.below hb
            replace c13y := c13y.below hb
            clear hb hR
            clear c29
            clear c49
            clear hk13
            clear c13x
            clear c13y
            have hcode : Hid (code = if E = sig.take 32 then 0 else 91) := Lib.hid (by rw [HC.out, code_just HD.out H64.out (by rw [← HS.out]; exact HSL.out), HE.out, HS.out, HK.out])
            have sig_ := hs.below hB
            obtain ⟨bE, oE, rfl, cE⟩ := sE.cells (by rw [LE.out]; omega)
            obtain ⟨bs, os, rfl, cs_⟩ := sig_.cells (by rw [H64.out]; omega)
            have CE := Lib.hid cE
            have CS := Lib.hid cs_
            clear cE cs_ sig_ sE HC HE HS HK HD
            go_wp2_with fail
            go_loopw [16] (fun t wr => ∃ i : Nat, i ≤ 32 ∧ t = .int .i64 (i : Int) ∧ (∀ j, j < i → nth E j = nth sig j) ∧ Dr w14 wr)
              (fun t _ => 32 - (intOf t).toNat)
            case atStart => exact ⟨0, by omega, rfl, fun j hj => by omega, .refl _⟩
            case round =>
              obtain ⟨i, hi, rfl, hall, nd, rfl⟩ := hrel
              have HA := Lib.hid hall
              clear hall
              by_cases hlt : i < 32
              · have c1 := CE.out i (by rw [LE.out]; omega)
                have c2 := CS.out i (by rw [H64.out]; omega)
                by_cases he : nth E i = nth sig i
                · have HEE := Lib.hid he
                  have g1 : (nth E i != nth sig i) = false := by rw [he]; simp
                  clear he
                  go_wp2_with fail
                  go_quiet (fail)
                  go_wp2_with fail
                  go_roundw
                  case rel => exact ⟨i + 1, by omega, by go_num, fun j hj => by
                    by_cases h : j = i
                    · rw [h]; exact HEE.out
                    · exact HA.out j (by omega), (by repeat (first | exact Dr.refl _ | apply Dr.drewN))⟩
                  case measure => simp [intOf]; omega
                · obtain rfl : code = 91 := by
                    rw [hcode.out, if_neg]
                    intro h
                    refine he ?_
                    rw [h, nth_take _ _ _ hlt]
                  have g1 : (nth E i != nth sig i) = true := by simpa using he
                  clear he
                  go_wp2_with fail
                  go_quiet (fail)
                  go_wp2_with fail
                  go_ret
                  exact ⟨by first | done | rfl | simp, hB.trans ((below_drewN (below_drewN (Below.refl _ _) nd) _).mono hB.size)⟩
              · obtain rfl : code = 0 := by
                  rw [hcode.out, if_pos]
                  refine ext_nth _ _ (by rw [LE.out, HL2.out]) fun j hj => ?_
                  rw [LE.out] at hj
                  rw [nth_take _ _ _ hj]
                  exact HA.out j (by omega)
                go_wp2_with fail
                go_ret
                exact ⟨by first | done | rfl | simp, hB.trans (below_drewN (Below.refl _ _) nd |>.mono hB.size)⟩
      · skip
        obtain rfl : code = 91 := by rw [HC.out]; exact code_high HD.out (by rw [← HS.out]; exact hsl)
        obtain ⟨cj, hcj⟩ : ∃ c, c = cmpI S eL := ⟨_, rfl⟩
        have hdc : decide ((0 : Int) ≤ cj) = true := decide_eq_true (by rw [hcj]; exact cmpI_ge_ hsl)
        have HCJ := Lib.hid hcj
        clear hsl hcj
        go_wp2_with fail
        refine (LI _ hB).mono ?_; rintro e_ w4 ⟨v29, rfl, c29, hb⟩
        replace hB := hB.trans (hb.mono hB.size)
        replace c19x := c19x.below hb
        replace c19y := c19y.below hb
        replace hk7 := hk7.keep hb
        clear hb
        go_wp2_with fail
        refine (rL_c w4).mono ?_; rintro e_ w5 ⟨v31, rfl, c31, hb⟩
        replace hB := hB.trans (hb.mono hB.size)
        replace c19x := c19x.below hb
        replace c19y := c19y.below hb
        replace hk7 := hk7.keep hb
        replace c29 := c29.below hb
        clear hb
        have h_ := cmp7_v c29.num c31.num
        rw [← HCJ.out] at h_
        go_wp2_with fail
        refine (h_).mono ?_; rintro e_ w6 ⟨rfl, rfl⟩
        go_wp2_with fail
        go_ret
        exact ⟨by first | done | rfl | simp, hB⟩
    · skip
      obtain rfl : code = 91 := by rw [HC.out]; exact code_short hd h64
      have g1 : ((sig.length : Int) != 64) = true := by simp; omega
      clear hd h64 HC
      go_wp2_with fail
      go_ret
      exact ⟨by first | done | rfl | simp, hB⟩
end Go.Proofs.YtlolkighnnedfaaGreatDoor
