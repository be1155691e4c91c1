import Derived.Test.YtbmdifeanocahaaDoorZ24
import Derived.Test.YtbmdifeanocahaaDoorZ35
import Derived.Test.YtbmdifeanocahaaDoorZ36
/- signetref10.Encode by its contract. -/
set_option linter.unusedVariables false
set_option linter.unusedSimpArgs false
namespace Go.Proofs.YtbmdifeanocahaaDoor
open Go.RowKit Go.Sg

set_option maxHeartbeats 8000000 in
set_option maxRecDepth 20000 in
theorem rEncode_c (h bits' : Int) (a a' : Option Addr) (cap cap' : Nat) (d s : List Int) (w : World) (hx : Sl .u8 w a cap d) (hy : Sl .u8 w a' cap' s) (ux : U8 d) (uy : U8 s) (hl : d.length + s.length ≤ 2097152) (ht : RefTabs w) :
    Calls Tryd.prog 90 #[.int .i64 h, .slice a d.length cap, .slice a' s.length cap', .int .i64 bits'] w (EncPost h d s bits' w) := by
  have sz := rSize_c h w
  by_cases hh : IsHash h
  · obtain ⟨z, hz⟩ : ∃ z, z = shaSize h := ⟨_, rfl⟩
    have hz0 : 0 < z := by rw [hz]; exact hh.size_le.2.1
    have hz64 : z ≤ 64 := by rw [hz]; exact shaSize_le h
    rw [← hz] at sz
    have HZ := Lib.hid hz
    have e0 : ((z : Int) == 0) = false := beq_false_of_ne (by omega)
    clear hz
    by_cases hn : 0 ≤ bits' ∧ bits' ≤ 65536
    · obtain ⟨b, rfl⟩ : ∃ N : Nat, bits' = (N : Int) := ⟨bits'.toNat, by omega⟩
      have nb : b ≤ 65536 := by omega
      have d0 : decide ((b : Int) < 0) = false := decide_eq_false (by omega)
      have d1 : decide ((65536 : Int) < (b : Int)) = false := decide_eq_false (by omega)
      have d2 : ¬ (65536 : Int) < (b : Int) := by omega
      obtain ⟨E, hE⟩ : ∃ E, E = encLen b := ⟨_, rfl⟩
      have HE := Lib.hid hE
      have eb : E ≤ 8192 := by rw [hE]; unfold encLen; omega
      have q0 : ((b : Int) + 7) / 8 = (E : Int) := by rw [hE]; unfold encLen; omega
      have q1 : ((b : Int) + 7).tdiv 8 = (E : Int) := by rw [Int.tdiv_eq_ediv_of_nonneg (by omega)]; exact q0
      clear hE
      by_cases hf : d.length = z ∧ z + s.length + 2 ≤ E
      · obtain ⟨hdz, hzs⟩ := hf
        have fits : Hid (encFits h d s b) := Lib.hid ⟨by rw [hdz, HZ.out], by rw [← HZ.out, ← HE.out]; exact hzs⟩
        have er : Hid (eres h d s (b : Int) = encOf h d s b) := Lib.hid (by unfold eres; rw [if_pos ⟨hh, hn, by rw [Int.toNat_natCast]; exact fits.out⟩, Int.toNat_natCast])
        have ec : Hid (ecode h d s (b : Int) = 0) := Lib.hid (by unfold ecode; rw [if_pos hh, if_pos hn, if_pos (by rw [Int.toNat_natCast]; exact fits.out)])
        have g1 : ((z : Int) != (z : Int)) = false := by simp
        obtain ⟨m, hm⟩ : ∃ m, m = s.length := ⟨_, rfl⟩
        have DL := Lib.hid hdz
        have SL := Lib.hid hm
        have HLL := Lib.hid hl
        have ml : m ≤ 8192 := by omega
        rw [hdz, ← hm]
        rw [← hm] at hzs
        clear hdz hm hl
        have g2 : decide ((E : Int) < (z : Int) + (m : Int) + 2) = false := decide_eq_false (by omega)
        have g3 : ¬ (E : Int) < (z : Int) + (m : Int) + 2 := by omega
        obtain ⟨n, hnE⟩ : ∃ n, n + z + 1 = E := ⟨E - z - 1, by omega⟩
        obtain ⟨q, hqn⟩ : ∃ q, q + m + 1 = n := ⟨n - m - 1, by omega⟩
        have x1 : (E : Int) - (z : Int) - 1 = (n : Int) := by omega
        have x2 : (n : Int) - (m : Int) = (q : Int) + 1 := by omega
        have x3 : (n : Int) - (m : Int) - 1 = (q : Int) := by omega
        have n0 : 0 < n := by omega
        clear hn
        go_enter Tryd.func90, Tryd.ntmps90
        go_wp2_with fail
        refine sz.mono ?_; rintro e w' ⟨rfl, rfl⟩
        clear sz
        go_wp2_with fail
        have sc := rsecond_c h a a' cap cap' d s w hx hy ux uy HLL.out ht
        rw [DL.out, ← SL.out] at sc
        refine sc.mono ?_; rintro e w1 ⟨v, rfl, nH, hb1⟩
        obtain ⟨aH, cH, rfl, sH⟩ := nH.sl
        obtain ⟨zH, hzH⟩ : ∃ x, x = encSum h d s := ⟨_, rfl⟩
        rw [← hzH] at sH ⊢
        have uH : U8 zH := by rw [hzH]; exact encSum_u8 _ _ _
        have lH : Hid (zH.length = z) := Lib.hid (by rw [hzH, encSum_len, HZ.out])
        have EH := Lib.hid hzH
        rw [lH.out]
        have hy1 := hy.below hb1
        have ht1 := ht.below hb1
        have b1s := hb1.size
        clear nH hzH hx hy ht
        go_wp2_with (at_make; refine wpList_make_blk _ rfl _ _ 23 rfl 5 .u8 1 Tryd.underlying23 info8s q _ _ rfl rfl rfl rfl (by omega) (by omega) ?_)
        intro w2 hk2 hs2 hb2
        have n2 : New w1.heap.size .u8 5 w2 (.slice (some ⟨w1.heap.size, 0, none⟩) q q) (List.replicate q 0) := by
          have := New.of_blk hk2 (Nat.le_refl _) q q (Nat.le_refl _) (by rw [List.length_replicate]; exact Nat.le_refl _) (by omega)
          rwa [List.take_of_length_le (by rw [List.length_replicate]; exact Nat.le_refl _)] at this
        have b2s := hb2.size
        clear hk2 hs2
        go_wp2_with (at_builtin; refine wpList_append_new _ rfl _ _ 23 rfl w1.heap.size 5 .u8 1 Tryd.underlying23 info8s _ _ rfl (n2.alloc _) _ _ 1 [1] rfl rfl (cells_one _ _ _ _ _ rfl) (by simp; omega) (by simp; omega) (by simp; omega) ?_)
        intro v3 w3 n3 g3' _
        have hlt1 := fun g hg => (n2.lt g hg).1
        have hb3 : Below w1.heap.size w1 w3 := (hb2.alloc b2s _).grown g3' (by simp; omega) hlt1
        have b3s := hb3.size
        have hy3 := hy1.below hb3
        clear n2 g3' hlt1 hb2 b2s
        go_wp2_with (at_builtin; refine wpList_append_new _ rfl _ _ 23 rfl w1.heap.size 5 .u8 1 Tryd.underlying23 info8s _ _ rfl n3 _ _ _ s rfl SL.out hy3.cells (by rw [← SL.out]; simp; omega) (by rw [← SL.out]; simp; omega) b3s ?_)
        intro v4 w4 n4 g4' _
        have hlt1 := fun g hg => (n3.lt g hg).1
        have hb4 : Below w1.heap.size w1 w4 := hb3.grown g4' b3s hlt1
        have b4s := hb4.size
        have eD : List.replicate q (0 : Int) ++ 1 :: s = encDb n s := by
          unfold encDb; rw [← SL.out, show n - m - 1 = q by omega]
        rw [eD] at n4
        obtain ⟨D, hD⟩ : ∃ D, D = encDb n s := ⟨_, rfl⟩
        rw [← hD] at n4
        have lD : D.length = n := by rw [hD]; exact encDb_len (by rw [← SL.out]; omega)
        have HD := Lib.hid hD
        obtain ⟨g, C, rfl, hgB, pre⟩ := n4.pre (by omega)
        rw [lD]
        have hC := pre.le
        have hCm := pre.max
        have LD := Lib.hid lD
        clear n3 n4 g4' hlt1 hb3 b3s eD hD hy3 lD
        go_wp2_with fail
        have mk := rmask_c h hh aH cH zH n w4 (sH.below hb4) uH (by omega) (by rw [lH.out]; omega) (ht1.below hb4)
        rw [lH.out] at mk
        refine mk.mono ?_; rintro e w5 ⟨v, rfl, nM, hb5⟩
        obtain ⟨aM, cM, rfl, sM⟩ := nM.sl
        have apM : ∀ b off, aM = some ⟨b, off, none⟩ → 0 < (maskOf h zH n).length → b ≠ g := fun b off ha _ e => by
          have h1 := nM.far b off ha
          have h2 := pre.lt
          omega
        obtain ⟨zM, hzM⟩ : ∃ x, x = maskOf h zH n := ⟨_, rfl⟩
        rw [← hzM] at sM apM ⊢
        have lM : Hid (zM.length = n) := Lib.hid (by rw [hzM, maskOf_len hh])
        have EM := Lib.hid hzM
        rw [lM.out]
        have pre5 : Pre w5 g .u8 5 C (xl D (zM.take 0)) := by rw [List.take_zero, xl_nil_right]; exact pre.keep hb5
        have hb5' := hb4.trans (hb5.mono b4s)
        clear nM hzM hb5 pre hb4 b4s hy1
        go_wp2_with fail
        go_loopw [15] (fun t wr => ∃ i : Nat, i ≤ n ∧ t = .int .i64 (i : Int) ∧ Pre wr g .u8 5 C (xl D (zM.take i)) ∧ Sl .u8 wr aM cM zM ∧ Below w1.heap.size w1 wr) (fun t _ => n - (intOf t).toNat)
        case atStart => exact ⟨0, by omega, rfl, pre5, sM, hb5'⟩
        case round =>
          clear pre5 sM hb5'
          obtain ⟨i, hi, rfl, hkb, sM, hb⟩ := hrel
          by_cases hlt : i < n
          · have ll : (xl D (zM.take i)).length = n := by rw [xl_len, LD.out]
            have c0 := hkb.cell i (by rw [ll]; omega)
            have xc := xl_cell D [] zM i 0 rfl (by rw [lM.out]; omega)
            rw [List.nil_append, Nat.zero_add] at xc
            rw [xc] at c0
            have f0 := hkb.free i
            obtain ⟨b', off, eaa, hcc⟩ := sM.cells (by rw [lM.out]; omega)
            subst eaa
            have c1 := hcc i (by rw [lM.out]; omega)
            obtain ⟨x, hx⟩ : ∃ x, x = nth zM i := ⟨_, rfl⟩
            obtain ⟨y, hy⟩ : ∃ y, y = nth D i := ⟨_, rfl⟩
            obtain ⟨r, hr⟩ : ∃ r, r = bx y x := ⟨_, rfl⟩
            have hs := hkb.set i r
            have xs := xl_set D [] zM i 0 rfl (by rw [lM.out]; omega) (by rw [LD.out]; omega)
            rw [List.nil_append, List.nil_append, Nat.zero_add, ← hx, ← hy, ← hr] at xs
            rw [xs] at hs
            have sM2 := (sM.grown' (grownBy_set wr ⟨g, i, none⟩ (.int .u8 r)) (fun b' off' ha hp e => apM b' off' ha hp (Option.some.inj e))).drewN 1
            have hb2 := (hb.setCell (p := ⟨g, i, none⟩) hgB (.int .u8 r)).drew
            rw [← hx] at c1
            rw [← hy] at c0
            have hxo : bits .xor .u8 y x = r := hr.symm
            have hin : (i : Int) < (n : Int) := by omega
            have hd1 : decide ((i : Int) < (n : Int)) = true := decide_eq_true hin
            have hs2 : Pre (wr.setCell ⟨g, i, none⟩ (.int .u8 r)).drew g .u8 5 C (xl D (zM.take (i + 1))) := hs
            have hMl := lM.out
            have hin2 : i < zM.length := by omega
            have hin3 : (i : Int) < (zM.length : Int) := by omega
            clear hcc hx hy hr xc xs hkb sM hb ll hs
            go_wp2_with fail
            go_still_tail 12, (by kernel_rfl)
            change wpList _ _ _ _ _ wr.drew
            go_wp2_with fail
            go_roundw
            case rel => exact ⟨i + 1, by omega, by go_num, hs2, sM2, hb2⟩
            case measure => simp [intOf]; omega
          · obtain rfl : n = i := by omega
            have hd1 : decide ((n : Int) < (n : Int)) = false := by simp
            rw [List.take_of_length_le (by rw [lM.out]; exact Nat.le_refl _)] at hkb
            obtain ⟨X, hX⟩ : ∃ X, X = xl D zM := ⟨_, rfl⟩
            rw [← hX] at hkb
            have lX : X.length = n := by rw [hX, xl_len, LD.out]
            have HX := Lib.hid hX
            have c1 := hkb.cell 0 (by omega)
            have f1 := hkb.free 0
            obtain ⟨x, hx0⟩ : ∃ x, x = nth X 0 := ⟨_, rfl⟩
            rw [← hx0] at c1
            obtain ⟨t, htB⟩ : ∃ t, t = topB b := ⟨_, rfl⟩
            obtain ⟨y, hy0⟩ : ∃ y, y = bits .and .u8 x t := ⟨_, rfl⟩
            have a1 : bits .and .u8 x t = y := hy0.symm
            have hk6 := hkb.set 0 y
            have eT : Hid (X.set 0 y = encBlk h d s b n) := Lib.hid (by
              unfold encBlk topped
              rw [hy0, hx0, htB, HX.out, HD.out, EM.out, EH.out])
            rw [eT.out] at hk6
            have hb6 := (hb.setCell (p := ⟨g, 0, none⟩) hgB (.int .u8 y)).drew
            obtain ⟨k, hk⟩ : ∃ k, k = (8 - b % 8) % 8 := ⟨_, rfl⟩
            have k8 : k < 8 := by omega
            have hc := rtop_c b nb wr.drew
            rw [← hk] at hc
            have hsh : (255 : Int) / 2 ^ min (IntKind.u64.wrap (k : Int)).toNat 8 = t := by
              rw [IntKind.wrap_u64, show ((k : Int) % 18446744073709551616).toNat = k by omega, Nat.min_eq_left (by omega), htB, hk]; rfl
            have a2 : bits .and .u8 x ((255 : Int) / 2 ^ min (IntKind.u64.wrap (k : Int)).toNat 8) = y := by rw [hsh]; exact a1
            clear hX hx0 htB hy0 hk
            go_wp2_with fail
            go_still_tail 10, (by kernel_rfl)
            still_call (hc.mono fun e w' h => ⟨h.1, h.2.symm⟩)
            repeat still_step
            refine wpStill_nil ?_
            change wpList _ _ _ _ _ wr.drew
            have lB : (encBlk h d s b n).length = n := encBlk_len (by rw [← SL.out]; omega)
            obtain ⟨B, hB⟩ : ∃ B, B = encBlk h d s b n := ⟨_, rfl⟩
            rw [← hB] at hk6 lB
            have HB := Lib.hid hB
            have hk6' : Pre (wr.setCell ⟨g, 0, none⟩ (.int .u8 y)).drew g .u8 5 C B := hk6
            have n6 := hk6'.new hgB
            rw [lB] at n6
            have b6s := hb6.size
            have sH6 := sH.below hb6
            clear hB hc hk6 hk6'
            go_wp2_with (at_builtin; refine wpList_append_new _ rfl _ _ 23 rfl w1.heap.size 5 .u8 1 Tryd.underlying23 info8s _ _ rfl n6 _ _ _ zH rfl lH.out.symm sH6.cells (by rw [lB, lH.out]; omega) (by rw [lB, lH.out]; omega) b6s ?_)
            intro v7 w7 n7 g7' _
            have hlt1 := fun g hg => (n6.lt g hg).1
            have hb7 : Below w1.heap.size w1 w7 := hb6.grown g7' b6s hlt1
            have b7s := hb7.size
            have l7 : Hid ((B ++ zH).length = n + z) := Lib.hid (by rw [List.length_append, lB, lH.out])
            clear n6 g7' hlt1 hb6 b6s
            go_wp2_with (at_builtin; refine wpList_append_new _ rfl _ _ 23 rfl w1.heap.size 5 .u8 1 Tryd.underlying23 info8s _ _ rfl (n7.alloc _) _ _ 1 [188] rfl rfl (cells_one _ _ _ _ _ rfl) (by rw [l7.out]; simp; omega) (by rw [l7.out]; simp; omega) (by simp; omega) ?_)
            intro v8 w8 n8 g8' _
            have hlt1 := fun g hg => (n7.lt g hg).1
            have hb8 : Below w1.heap.size w1 w8 := (hb7.alloc b7s _).grown g8' (by simp; omega) hlt1
            have fin : Hid (B ++ (zH ++ [188]) = encOf h d s b) := Lib.hid (by
              rw [HB.out, EH.out]; unfold encOf
              rw [← HZ.out, ← HE.out, show E - z - 1 = n by omega])
            rw [fin.out] at n8
            have hnew := n8.mono b1s
            have hbf := hb1.trans (hb8.mono b1s)
            clear n7 n8 g8' hlt1
            go_wp2_with fail
            go_ret2
            exact ⟨_, by rw [ec.out]; first | done | rfl, by rw [er.out]; exact hnew, hbf⟩
      · have nofit : Hid (¬ encFits h d s b) := Lib.hid (by
          unfold encFits; rw [← HZ.out, ← HE.out]; exact hf)
        have er : Hid (eres h d s (b : Int) = []) := Lib.hid (by unfold eres; rw [if_neg fun e => nofit.out (by have := e.2.2; rwa [Int.toNat_natCast] at this)])
        have ec : Hid (ecode h d s (b : Int) = 90) := Lib.hid (by unfold ecode; rw [if_pos hh, if_pos hn, if_neg fun e => nofit.out (by rwa [Int.toNat_natCast] at e)])
        by_cases hdz : d.length = z
        · have g1 : ((d.length : Int) != (z : Int)) = false := by simp [hdz]
          have g2 : decide ((E : Int) < (z : Int) + (s.length : Int) + 2) = true := decide_eq_true (by omega)
          have g3 : (E : Int) < (z : Int) + (s.length : Int) + 2 := by omega
          clear hn hf
          go_enter Tryd.func90, Tryd.ntmps90
          go_wp2_with fail
          refine sz.mono ?_; rintro e w' ⟨rfl, rfl⟩
          go_wp2_with fail
          go_ret2
          exact ⟨_, by rw [ec.out]; first | done | rfl, by rw [er.out]; exact .nil _ _ _ _, .refl _ _⟩
        · have g1 : ((d.length : Int) != (z : Int)) = true := by simp; omega
          clear hn hf
          go_enter Tryd.func90, Tryd.ntmps90
          go_wp2_with fail
          refine sz.mono ?_; rintro e w' ⟨rfl, rfl⟩
          go_wp2_with fail
          go_ret2
          exact ⟨_, by rw [ec.out]; first | done | rfl, by rw [er.out]; exact .nil _ _ _ _, .refl _ _⟩
    · have er : Hid (eres h d s bits' = []) := Lib.hid (by unfold eres; rw [if_neg fun e => hn e.2.1])
      have ec : Hid (ecode h d s bits' = 10) := Lib.hid (by unfold ecode; rw [if_pos hh, if_neg hn])
      by_cases q : bits' < 0
      · have d0 : decide (bits' < 0) = true := decide_eq_true q
        go_enter Tryd.func90, Tryd.ntmps90
        go_wp2_with fail
        refine sz.mono ?_; rintro e w' ⟨rfl, rfl⟩
        go_wp2_with fail
        go_ret2
        exact ⟨_, by rw [ec.out]; first | done | rfl, by rw [er.out]; exact .nil _ _ _ _, .refl _ _⟩
      · have d0 : decide (bits' < 0) = false := decide_eq_false q
        have d1 : decide ((65536 : Int) < bits') = true := decide_eq_true (by omega)
        clear hn
        go_enter Tryd.func90, Tryd.ntmps90
        go_wp2_with fail
        refine sz.mono ?_; rintro e w' ⟨rfl, rfl⟩
        go_wp2_with fail
        go_ret2
        exact ⟨_, by rw [ec.out]; first | done | rfl, by rw [er.out]; exact .nil _ _ _ _, .refl _ _⟩
  · rw [shaSize_no hh] at sz
    have er : Hid (eres h d s bits' = []) := Lib.hid (by unfold eres; rw [if_neg fun e => hh e.1])
    have ec : Hid (ecode h d s bits' = 111) := Lib.hid (by unfold ecode; rw [if_neg hh])
    go_enter Tryd.func90, Tryd.ntmps90
    go_wp2_with fail
    refine sz.mono ?_; rintro e w' ⟨rfl, rfl⟩
    go_wp2_with fail
    go_ret2
    exact ⟨_, by rw [ec.out]; first | done | rfl, by rw [er.out]; exact .nil _ _ _ _, .refl _ _⟩
end Go.Proofs.YtbmdifeanocahaaDoor
