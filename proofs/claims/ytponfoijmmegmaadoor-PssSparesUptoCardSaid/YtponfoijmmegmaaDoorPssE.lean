/- pss.Encode by its contract. -/
import Derived.Test.YtponfoijmmegmaaDoorPssC
set_option linter.unusedVariables false
set_option linter.unusedSimpArgs false
namespace Go.Sg
open Go.RowKit
theorem enc_copy {E n p : Nat} (s : List Int) (hp : p + s.length = n) (hn : n ≤ E) :
    (List.replicate E (0 : Int)).take p ++ (s.take s.length ++ (List.replicate E 0).drop (p + min s.length s.length)) = List.replicate p 0 ++ (s ++ List.replicate (E - n) 0) := by
  rw [List.take_replicate, Nat.min_eq_left (by omega), List.take_length, Nat.min_self, List.drop_replicate, hp]
theorem enc_one {n p q : Nat} (s t : List Int) (hp : p + s.length = n) (hq : q + 1 = p) : (List.replicate p (0 : Int) ++ (s ++ t)).set q 1 = encDb n s ++ t := by
  unfold encDb
  rw [← hq, List.replicate_succ', List.append_assoc, List.set_append_right _ _ (by rw [List.length_replicate]; omega), List.length_replicate, Nat.sub_self, show n - s.length - 1 = q by omega, List.append_assoc]
  rfl
theorem enc_top {X t : List Int} {y : Int} (hX : 0 < X.length) : (X ++ t).set 0 y = X.set 0 y ++ t := List.set_append_left _ _ hX
theorem enc_sum {E n z : Nat} (B H : List Int) (hB : B.length = n) (hH : H.length = z) (hE : n + z + 1 = E) :
    B ++ (H.take (z + 1) ++ (B ++ List.replicate (E - n) (0 : Int)).drop (n + z)) = B ++ (H ++ [0]) := by
  subst hB hH
  rw [List.take_of_length_le (l := H) (by omega), List.drop_append, List.drop_of_length_le (by omega), List.nil_append, List.drop_replicate, show E - B.length - (B.length + H.length - B.length) = 1 by omega]
  rfl
theorem enc_last {E n z : Nat} (B H : List Int) (hB : B.length = n) (hH : H.length = z) (hE : n + z + 1 = E) : (B ++ (H ++ [(0 : Int)])).set (E - 1) 188 = B ++ (H ++ [188]) := by
  rw [List.set_append_right _ _ (by omega), List.set_append_right _ _ (by omega), show E - 1 - B.length - H.length = 0 by omega]
  rfl
end Go.Sg
namespace Go.Proofs.YtponfoijmmegmaaDoor
open Go.RowKit Go.Sg
def EncPost (h : Int) (d s : List Int) (n : Int) (w : World) (e : Ending) (w' : World) : Prop := ∃ v, e = .returned (.tuple #[v, .int .i64 (ecode h d s n)]) ∧ New w.heap.size .u8 5 w' v (eres h d s n) ∧ Below w.heap.size w w'

set_option maxHeartbeats 8000000 in
set_option maxRecDepth 20000 in
theorem pEncode_c (h bits' : Int) (a a' : Option Addr) (cap cap' : Nat) (d s : List Int) (w : World) (hx : Sl .u8 w a cap d) (hy : Sl .u8 w a' cap' s) (ux : U8 d) (uy : U8 s) (hl : d.length + s.length ≤ 2097152) (ht : ShaTabs w) :
    Calls Tryd.prog 10 #[.int .i64 h, .slice a d.length cap, .slice a' s.length cap', .int .i64 bits'] w (EncPost h d s bits' w) := by
  have sz := Size_c h w
  by_cases hh : IsHash h
  · obtain ⟨z, hz⟩ : ∃ z, z = shaSize h := ⟨_, rfl⟩
    have hz0 : 0 < z := by rw [hz]; exact hh.size_le.2.1
    have hz64 : z ≤ 64 := by rw [hz]; exact shaSize_le h
    rw [← hz] at sz
    have HZ := Lib.hid hz
    have e0 : ((z : Int) == 0) = false := beq_false_of_ne (by omega)
    clear hz
    by_cases hn : 0 ≤ bits' ∧ bits' ≤ 65536
    · obtain ⟨b, rfl⟩ : ∃ N : Nat, bits' = (N : Int) := ⟨bits'.toNat, by omega⟩
      have nb : b ≤ 65536 := by omega
      have d0 : decide ((b : Int) < 0) = false := decide_eq_false (by omega)
      have d1 : decide ((65536 : Int) < (b : Int)) = false := decide_eq_false (by omega)
      have d2 : ¬ (65536 : Int) < (b : Int) := by omega
      obtain ⟨E, hE⟩ : ∃ E, E = encLen b := ⟨_, rfl⟩
      have HE := Lib.hid hE
      have eb : E ≤ 8192 := by rw [hE]; unfold encLen; omega
      have q0 : ((b : Int) + 7) / 8 = (E : Int) := by rw [hE]; unfold encLen; omega
      clear hE
      by_cases hf : d.length = z ∧ z + s.length + 2 ≤ E
      · obtain ⟨hdz, hzs⟩ := hf
        have fits : Hid (encFits h d s b) := Lib.hid ⟨by rw [hdz, HZ.out], by rw [← HZ.out, ← HE.out]; exact hzs⟩
        have er : Hid (eres h d s (b : Int) = encOf h d s b) := Lib.hid (by unfold eres; rw [if_pos ⟨hh, hn, by rw [Int.toNat_natCast]; exact fits.out⟩, Int.toNat_natCast])
        have ec : Hid (ecode h d s (b : Int) = 0) := Lib.hid (by unfold ecode; rw [if_pos hh, if_pos hn, if_pos (by rw [Int.toNat_natCast]; exact fits.out)])
        have top := ht.top
        have g1 : ((z : Int) != (z : Int)) = false := by simp
        obtain ⟨m, hm⟩ : ∃ m, m = s.length := ⟨_, rfl⟩
        have DL := Lib.hid hdz
        have SL := Lib.hid hm
        have HLL := Lib.hid hl
        rw [hdz, ← hm]
        rw [← hm] at hzs
        clear hdz hm hl
        have g2 : decide ((E : Int) - (z : Int) - 2 < (m : Int)) = false := decide_eq_false (by omega)
        have g3 : ¬ (E : Int) - (z : Int) - 2 < (m : Int) := by omega
        obtain ⟨n, hnE⟩ : ∃ n, n + z + 1 = E := ⟨E - z - 1, by omega⟩
        obtain ⟨p, hpn⟩ : ∃ p, p + m = n := ⟨n - m, by omega⟩
        obtain ⟨q, hqp⟩ : ∃ q, q + 1 = p := ⟨p - 1, by omega⟩
        have x1 : (E : Int) - (z : Int) - 1 = (n : Int) := by omega
        have x2 : (n : Int) - (m : Int) = (p : Int) := by omega
        have x3 : (p : Int) - 1 = (q : Int) := by omega
        obtain ⟨E1, hE1⟩ : ∃ q, q + 1 = E := ⟨E - 1, by omega⟩
        have x4 : (E : Int) - 1 = (E1 : Int) := by omega
        have n0 : 0 < n := by omega
        have qn : q < n := by omega
        have l8 : E1 < E := by omega
        clear hn
        go_enter Tryd.func10, Tryd.ntmps10
        go_wp2_with fail
        refine sz.mono ?_; rintro e w' ⟨rfl, rfl⟩
        clear sz
        go_wp2_with (at_make; refine wpList_make_blk _ rfl _ _ 23 rfl 5 .u8 1 Tryd.underlying23 info8s E _ _ rfl rfl rfl rfl (by omega) (by omega) ?_)
        intro w1 hk1 hs1 hb1
        have hx1 := hx.below hb1
        have hy1 := hy.below hb1
        have ht1 := ht.below hb1
        have apx := hx.apart (Nat.le_refl w.heap.size)
        have apy := hy.apart (Nat.le_refl w.heap.size)
        obtain ⟨G, hG⟩ : ∃ G, G = w.heap.size := ⟨_, rfl⟩
        rw [← hG] at hk1 apx apy top ⊢
        have hGw : w.heap.size ≤ G := Nat.le_of_eq hG.symm
        clear hG hs1
        have hcut1 := fun W => cut_h0 (P := Tryd.prog) W 23 5 Tryd.underlying23 size8 (some ⟨G, 0, none⟩) E E n (by omega)
        have hcut2 := fun W => cut_l (P := Tryd.prog) W 23 5 Tryd.underlying23 size8 (some ⟨G, 0, none⟩) n E p (by omega) (p : Int) rfl
        have hcut3 := fun W => cut_l (P := Tryd.prog) W 23 5 Tryd.underlying23 size8 (some ⟨G, 0, none⟩) E E n (by omega) (n : Int) rfl
        rw [if_neg (by omega), Option.map_some, Addr.add_mid, Nat.zero_add, show n - p = m by omega] at hcut2
        rw [if_neg (by omega), Option.map_some, Addr.add_mid, Nat.zero_add, show E - n = z + 1 by omega] at hcut3
        go_wp2_with (with_reducible refine wpList_copy_blk rfl _ _ 23 23 rfl 5 Tryd.underlying23 size8 _ G p _ _ _ _ _ rfl rfl .u8 _ s hk1 hy1.cells SL.out.symm (fun _ _ => rfl) (by rw [List.length_replicate]; omega) ?_)
        intro w2 hk2 hg2 hs2
        rw [Nat.min_eq_left (by omega), List.take_of_length_le (l := s) (by rw [← SL.out]; omega)] at hk2
        have hb2 := below_then hb1 hg2 hGw hb1.size
        have hx2 := hx1.grown' hg2 (fun b off ha hp e => apx b off ha hp (Option.some.inj e))
        have hy2 := hy1.grown' hg2 (fun b off ha hp e => apy b off ha hp (Option.some.inj e))
        have ht2 := ht1.grown hg2 top
        have lq : q < (List.replicate p (0 : Int) ++ (s ++ List.replicate (E - n) 0)).length := by rw [List.length_append, List.length_replicate]; omega
        have c0 := hk2.cell q lq
        have f0 := hk2.free q
        have hk3 := hk2.set q 1
        rw [enc_one (n := n) s _ (by rw [← SL.out]; exact hpn) hqp] at hk3
        have hg3 := grownBy_set w2 ⟨G, q, none⟩ (.int .u8 1)
        have hx3 := hx2.grown' hg3 (fun b off ha hp e => apx b off ha hp (Option.some.inj e))
        have hy3 := hy2.grown' hg3 (fun b off ha hp e => apy b off ha hp (Option.some.inj e))
        have ht3 := ht2.grown hg3 top
        have hb3 := below_then hb2 hg3 hGw hb2.size
        clear hk1 hk2 hg2 hb1 hb2 hx1 hy1 hx2 hy2 ht1 ht2 hs2 lq hg3
        go_wp2_with fail
        obtain ⟨w3, hw3⟩ : ∃ x, x = w2.setCell ⟨G, q, none⟩ (.int .u8 1) := ⟨_, rfl⟩
        rw [← hw3] at hk3 hx3 hy3 ht3 hb3 ⊢
        have b3s := hb3.size
        have sc := second_c h a a' cap cap' d s w3 hx3 hy3 ux uy HLL.out ht3
        rw [DL.out, ← SL.out] at sc
        refine sc.mono ?_; rintro e w4 ⟨v, rfl, nH, hb⟩
        obtain ⟨aH, cH, rfl, sH⟩ := nH.sl
        have apH : ∀ b off, aH = some ⟨b, off, none⟩ → 0 < (encSum h d s).length → b ≠ G := fun b off ha _ e => by
          have h1 := nH.far b off ha
          have h2 := hk3.lt
          omega
        obtain ⟨zH, hzH⟩ : ∃ x, x = encSum h d s := ⟨_, rfl⟩
        rw [← hzH] at sH apH ⊢
        have uH : U8 zH := by rw [hzH]; exact encSum_u8 _ _ _
        have lH : Hid (zH.length = z) := Lib.hid (by rw [hzH, encSum_len, HZ.out])
        have EH := Lib.hid hzH
        rw [lH.out]
        have hk4 := hk3.below hb hk3.lt
        have ht4 := ht3.below hb
        have hb4 := hb3.trans (hb.mono b3s)
        have b4s := hb4.size
        have lD : (encDb n s).length = n := encDb_len (by rw [← SL.out]; omega)
        clear nH hzH hb hk3 hx3 hy3 ht3 hb3 c0 f0
        go_wp2_with fail
        have pm := (pmask_c h hh aH cH zH (encDb n s) (List.replicate (E - n) 0) G n E w4 sH uH lD _ (isR_blk G 5) hk4 (by omega) (by omega) (by rw [lH.out]; omega) apH top ht4)
        rw [lH.out] at pm
        refine pm.mono ?_; rintro e w5 ⟨rfl, hk5, hg5⟩
        have sH5 := sH.grown' hg5 (fun b off ha hp e => apH b off ha hp (Option.some.inj e))
        have hb5 := below_then hb4 hg5 hGw b4s
        have b5s := hb5.size
        have hk5' : Blk w5 G .u8 5 (xl (encDb n s) (maskOf h zH n) ++ List.replicate (E - n) 0) := hk5
        obtain ⟨X, hX⟩ : ∃ X, X = xl (encDb n s) (maskOf h zH n) := ⟨_, rfl⟩
        rw [← hX] at hk5'
        have lX : X.length = n := by rw [hX, xl_len, lD]
        have HX := Lib.hid hX
        have c1 := hk5'.cell 0 (by rw [List.length_append]; omega)
        rw [nth_append_left _ _ _ (by omega)] at c1
        have f1 := hk5'.free 0
        obtain ⟨x, hx0⟩ : ∃ x, x = nth X 0 := ⟨_, rfl⟩
        rw [← hx0] at c1
        obtain ⟨t, htB⟩ : ∃ t, t = topB b := ⟨_, rfl⟩
        obtain ⟨y, hy0⟩ : ∃ y, y = bits .and .u8 x t := ⟨_, rfl⟩
        have a1 : bits .and .u8 x t = y := hy0.symm
        have hk6 := hk5'.set 0 y
        rw [enc_top (by omega)] at hk6
        have eT : Hid (X.set 0 y = encBlk h d s b n) := Lib.hid (by
          unfold encBlk topped
          rw [hy0, hx0, htB, HX.out, EH.out])
        rw [eT.out] at hk6
        have hg6 := grownBy_set w5 ⟨G, 0, none⟩ (.int .u8 y)
        have sH6 := sH5.grown' hg6 (fun b off ha hp e => apH b off ha hp (Option.some.inj e))
        have hb6 := below_then hb5 hg6 hGw b5s
        have hc := high_c b nb w5.drew
        rw [← htB] at hc
        clear hk4 hk5 hk5' hg5 hb4 hb5 ht4 sH sH5 hX hx0 htB hy0 hg6
        go_wp2_with fail
        go_still_tail 7, (by kernel_rfl)
        still_call (hc.mono fun e w' h => ⟨h.1, h.2.symm⟩)
        repeat still_step
        refine wpStill_nil ?_
        change wpList _ _ _ _ _ w5.drew
        have lB : (encBlk h d s b n).length = n := encBlk_len (by rw [← SL.out]; omega)
        obtain ⟨B, hB⟩ : ∃ B, B = encBlk h d s b n := ⟨_, rfl⟩
        rw [← hB] at hk6 lB
        have HB := Lib.hid hB
        clear hB hc
        have hk6' : Blk (w5.setCell ⟨G, 0, none⟩ (.int .u8 y)).drew G .u8 5 (B ++ List.replicate (E - n) 0) := hk6
        have sH6' : Sl .u8 (w5.setCell ⟨G, 0, none⟩ (.int .u8 y)).drew aH cH zH := sH6.drewN 1
        have hb6' : Below w.heap.size w (w5.setCell ⟨G, 0, none⟩ (.int .u8 y)).drew := hb6.drew
        clear hk6 sH6 hb6
        go_wp2_with (with_reducible refine wpList_copy_blk rfl _ _ 23 23 rfl 5 Tryd.underlying23 size8 _ G n _ _ _ _ _ rfl rfl .u8 _ zH hk6' sH6'.cells lH.out (fun _ _ => rfl) (by rw [List.length_append, List.length_replicate]; omega) ?_)
        intro w7 hk7 hg7 hs7
        rw [enc_sum B zH lB lH.out hnE] at hk7
        have hb7 := below_then hb6' hg7 hGw hb6'.size
        have l7 : E1 < (B ++ (zH ++ [(0 : Int)])).length := by rw [List.length_append, List.length_append, lB, lH.out]; simp; omega
        have c7 := hk7.cell E1 l7
        have f7 := hk7.free E1
        have hk8 := hk7.set E1 188
        rw [show E1 = E - 1 by omega, enc_last B zH lB lH.out hnE, show E - 1 = E1 by omega] at hk8
        have hb8 := hb7.setCell (p := ⟨G, E1, none⟩) hGw (.int .u8 188)
        have fin : Hid (B ++ (zH ++ [188]) = encOf h d s b) := Lib.hid (by
          rw [HB.out, EH.out]; unfold encOf
          rw [← HZ.out, ← HE.out, show E - z - 1 = n by omega])
        have l9 : (B ++ (zH ++ [(188 : Int)])).length = E := by rw [List.length_append, List.length_append, lB, lH.out]; simp; omega
        have hnew := New.of_blk hk8 hGw E E (Nat.le_refl _) (by omega) (by omega)
        rw [List.take_of_length_le (by omega), fin.out] at hnew
        clear hk6' sH6' hb6' hk7 hg7 hb7 l7 hk8 l9
        go_wp2_with fail
        go_ret2
        exact ⟨_, by rw [ec.out]; first | done | rfl, by rw [er.out]; exact hnew, hb8⟩
      · have nofit : Hid (¬ encFits h d s b) := Lib.hid (by
          unfold encFits; rw [← HZ.out, ← HE.out]; exact hf)
        have er : Hid (eres h d s (b : Int) = []) := Lib.hid (by unfold eres; rw [if_neg fun e => nofit.out (by have := e.2.2; rwa [Int.toNat_natCast] at this)])
        have ec : Hid (ecode h d s (b : Int) = 90) := Lib.hid (by unfold ecode; rw [if_pos hh, if_pos hn, if_neg fun e => nofit.out (by rwa [Int.toNat_natCast] at e)])
        by_cases hdz : d.length = z
        · have g1 : ((d.length : Int) != (z : Int)) = false := by simp [hdz]
          have g2 : decide ((E : Int) - (z : Int) - 2 < (s.length : Int)) = true := decide_eq_true (by omega)
          have g3 : (E : Int) - (z : Int) - 2 < (s.length : Int) := by omega
          clear hn hf
          go_enter Tryd.func10, Tryd.ntmps10
          go_wp2_with fail
          refine sz.mono ?_; rintro e w' ⟨rfl, rfl⟩
          go_wp2_with fail
          go_ret2
          exact ⟨_, by rw [ec.out]; first | done | rfl, by rw [er.out]; exact .nil _ _ _ _, .refl _ _⟩
        · have g1 : ((d.length : Int) != (z : Int)) = true := by simp; omega
          clear hn hf
          go_enter Tryd.func10, Tryd.ntmps10
          go_wp2_with fail
          refine sz.mono ?_; rintro e w' ⟨rfl, rfl⟩
          go_wp2_with fail
          go_ret2
          exact ⟨_, by rw [ec.out]; first | done | rfl, by rw [er.out]; exact .nil _ _ _ _, .refl _ _⟩
    · have er : Hid (eres h d s bits' = []) := Lib.hid (by unfold eres; rw [if_neg fun e => hn e.2.1])
      have ec : Hid (ecode h d s bits' = 10) := Lib.hid (by unfold ecode; rw [if_pos hh, if_neg hn])
      by_cases q : bits' < 0
      · have d0 : decide (bits' < 0) = true := decide_eq_true q
        go_enter Tryd.func10, Tryd.ntmps10
        go_wp2_with fail
        refine sz.mono ?_; rintro e w' ⟨rfl, rfl⟩
        go_wp2_with fail
        go_ret2
        exact ⟨_, by rw [ec.out]; first | done | rfl, by rw [er.out]; exact .nil _ _ _ _, .refl _ _⟩
      · have d0 : decide (bits' < 0) = false := decide_eq_false q
        have d1 : decide ((65536 : Int) < bits') = true := decide_eq_true (by omega)
        clear hn
        go_enter Tryd.func10, Tryd.ntmps10
        go_wp2_with fail
        refine sz.mono ?_; rintro e w' ⟨rfl, rfl⟩
        go_wp2_with fail
        go_ret2
        exact ⟨_, by rw [ec.out]; first | done | rfl, by rw [er.out]; exact .nil _ _ _ _, .refl _ _⟩
  · rw [shaSize_no hh] at sz
    have er : Hid (eres h d s bits' = []) := Lib.hid (by unfold eres; rw [if_neg fun e => hh e.1])
    have ec : Hid (ecode h d s bits' = 111) := Lib.hid (by unfold ecode; rw [if_neg hh])
    go_enter Tryd.func10, Tryd.ntmps10
    go_wp2_with fail
    refine sz.mono ?_; rintro e w' ⟨rfl, rfl⟩
    go_wp2_with fail
    go_ret2
    exact ⟨_, by rw [ec.out]; first | done | rfl, by rw [er.out]; exact .nil _ _ _ _, .refl _ _⟩
end Go.Proofs.YtponfoijmmegmaaDoor
