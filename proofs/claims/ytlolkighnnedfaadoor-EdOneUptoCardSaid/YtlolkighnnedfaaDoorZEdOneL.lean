import Derived.Test.YtlolkighnnedfaaDoorZ39
/- signetlaw13.EdOne by its contract. -/
set_option linter.unusedVariables false
set_option linter.unusedSimpArgs false
namespace Go.Proofs.YtlolkighnnedfaaDoor
open Go.RowKit Go.Sg
/-- Two signatures of one first half that are both taken are one. -/
theorem one_sig {pub msg f s t : List Int} (hf : f.length = 32) (us : U8 s) (ut : U8 t) (h1 : edCode pub msg (f ++ s) = 0) (h2 : edCode pub msg (f ++ t) = 0) : f ++ s = f ++ t := by
  unfold edCode at h1 h2
  cases hd : decB pub with
  | none => rw [hd] at h1; cases h1
  | some A =>
    rw [hd] at h1 h2
    have e1 : (f ++ s).take 32 = f := by rw [List.take_append_of_le_length (by omega), List.take_of_length_le (by omega)]
    have e2 : (f ++ t).take 32 = f := by rw [List.take_append_of_le_length (by omega), List.take_of_length_le (by omega)]
    simp only [e1] at h1
    simp only [e2] at h2
    have v1 : verE A (chal f pub msg) (f ++ s) := Classical.byContradiction fun h => by rw [if_neg h] at h1; cases h1
    have v2 : verE A (chal f pub msg) (f ++ t) := Classical.byContradiction fun h => by rw [if_neg h] at h2; cases h2
    rw [verE_one (decB_on hd).2 hf (us.reverse (by omega)) (ut.reverse (by omega)) v1 v2]

set_option maxHeartbeats 2000000 in
set_option maxRecDepth 20000 in
theorem EdOne_c {ap am af as_ at_ : Option Addr} {cp cm cf cs ct : Nat} {pub msg f s t : List Int} {w : World} (hp : Sl .u8 w ap cp pub) (hm : Sl .u8 w am cm msg) (hf : Sl .u8 w af cf f) (hs : Sl .u8 w as_ cs s) (ht_ : Sl .u8 w at_ ct t)
    (up : U8 pub) (um : U8 msg) (uf : U8 f) (us : U8 s) (ut : U8 t) (hz : pub.length + msg.length + f.length + s.length + t.length ≤ 1048576)
    (tP : TabAt w 0 limbP) (tD : TabAt w 3 limbD) (tI : TabAt w 4 limbI) (tL : TabAt w 2 limbL) (tB : BaseT w 1) (ht : ShaTabs w) :
    Calls Tryd.prog 9 #[.slice ap pub.length cp, .slice am msg.length cm, .slice af f.length cf, .slice as_ s.length cs, .slice at_ t.length ct] w (fun e w' => e = .returned (.bool true) ∧ Below w.heap.size w w') := by
  have AW := fun (W : World) (hB : Below w.heap.size w W) => awake_c W (tP.below hB) (tD.below hB) (tI.below hB) (tL.below hB) (tB.below hB) (ht.below hB)
  have lp : pub.length ≤ 1048576 := by omega
  have lm : msg.length ≤ 1048576 := by omega
  have lfs : f.length + s.length ≤ 1048576 := by omega
  have lft : f.length + t.length ≤ 1048576 := by omega
  have VE := fun (sig : List Int) (us : U8 sig) (ls : sig.length ≤ 1048576) (a : Option Addr) (c : Nat) (W : World) (hs : Sl .u8 W a c sig) (hB : Below w.heap.size w W) => Verify_c (hp.below hB) (hm.below hB) hs up um us (by omega) (by omega) (by omega) (tP.below hB) (tD.below hB) (tI.below hB) (tL.below hB) (tB.below hB) (ht.below hB)
  have V1 := VE (f ++ s) (uf.append (by omega) us) (by rw [List.length_append]; exact lfs)
  have V2 := VE (f ++ t) (uf.append (by omega) ut) (by rw [List.length_append]; exact lft)
  have ONE : Hid (f.length = 32 → edCode pub msg (f ++ s) = 0 → edCode pub msg (f ++ t) = 0 → f ++ s = f ++ t) := Lib.hid (fun h => one_sig h us ut)
  obtain ⟨x1, hx1⟩ : ∃ x, x = f ++ s := ⟨_, rfl⟩
  obtain ⟨x2, hx2⟩ : ∃ x, x = f ++ t := ⟨_, rfl⟩
  rw [← hx1] at V1 ONE
  rw [← hx2] at V2 ONE
  have HX1 := Lib.hid hx1.symm
  have HX2 := Lib.hid hx2.symm
  obtain ⟨k1, hk1⟩ : ∃ c, c = edCode pub msg x1 := ⟨_, rfl⟩
  obtain ⟨k2, hk2⟩ : ∃ c, c = edCode pub msg x2 := ⟨_, rfl⟩
  rw [← hk1] at V1 ONE
  rw [← hk2] at V2 ONE
  clear VE hx1 hx2 hk1 hk2 hz tP tD tI tL tB ht
  obtain ⟨np, hnp⟩ : ∃ n, n = pub.length := ⟨_, rfl⟩
  obtain ⟨nm, hnm⟩ : ∃ n, n = msg.length := ⟨_, rfl⟩
  rw [← hnp, ← hnm] at V1 V2 ⊢
  clear hnp hnm lp lm
  have hB := Below.refl w.heap.size w
  go_enter Tryd.func9, Tryd.ntmps9
  go_wp2_with fail
  refine (AW w hB).mono ?_; rintro e_ w1 ⟨rfl, hb⟩
  replace hB := hB.trans (hb.mono hB.size)
  clear hb
  by_cases h32 : f.length = 32
  · have hne : ((f.length : Int) != 32) = false := by rw [h32]; rfl
    have H32 := Lib.hid h32
    have l1 : s.length ≤ 1048576 := by omega
    have l2 : t.length ≤ 1048576 := by omega
    clear h32 lfs lft
    have hB1 := hB
    have g1 := hf.below hB1
    go_wp2_with (at_builtin; refine wpList_append_new _ rfl _ _ 22 rfl w1.heap.size 5 .u8 1 Tryd.underlying22 info8a _ [] rfl (New.nil _ _ _ _) _ _ _ f rfl rfl g1.cells (by rw [H32.out]; simp) (by rw [H32.out]; simp) (Nat.le_refl _) ?_)
    intro v1 w2 n1 hg _
    have hb2 : Below w1.heap.size w1 w2 := (Below.refl _ _).grown hg (Nat.le_refl _) fun g hg => by simp [Value.ownBlock] at hg
    replace n1 : New w1.heap.size .u8 5 w2 v1 f := n1
    clear hg g1
    have g2 := hs.below (hB1.trans (hb2.mono hB1.size))
    go_wp2_with (at_builtin; refine wpList_append_new _ rfl _ _ 22 rfl w1.heap.size 5 .u8 1 Tryd.underlying22 info8a _ f rfl n1 _ _ _ s rfl rfl g2.cells (by rw [H32.out]; omega) (by rw [H32.out]; omega) hb2.size ?_)
    intro v2 w3 n2 hg _
    have hb3 : Below w1.heap.size w1 w3 := hb2.grown hg hb2.size fun g hg => (n1.lt g hg).1
    rw [HX1.out] at n2
    have hB3 := hB1.trans (hb3.mono hB1.size)
    clear hg g2 n1 hb2 hB hB1
    have g1 := hf.below hB3
    go_wp2_with (at_builtin; refine wpList_append_new _ rfl _ _ 22 rfl w3.heap.size 5 .u8 1 Tryd.underlying22 info8a _ [] rfl (New.nil _ _ _ _) _ _ _ f rfl rfl g1.cells (by rw [H32.out]; simp) (by rw [H32.out]; simp) (Nat.le_refl _) ?_)
    intro v3 w4 n3 hg _
    have hb4 : Below w3.heap.size w3 w4 := (Below.refl _ _).grown hg (Nat.le_refl _) fun g hg => by simp [Value.ownBlock] at hg
    replace n3 : New w3.heap.size .u8 5 w4 v3 f := n3
    clear hg g1
    have g2 := ht_.below (hB3.trans (hb4.mono hB3.size))
    go_wp2_with (at_builtin; refine wpList_append_new _ rfl _ _ 22 rfl w3.heap.size 5 .u8 1 Tryd.underlying22 info8a _ f rfl n3 _ _ _ t rfl rfl g2.cells (by rw [H32.out]; omega) (by rw [H32.out]; omega) hb4.size ?_)
    intro v4 w5 n4 hg _
    have hb5 : Below w3.heap.size w3 w5 := hb4.grown hg hb4.size fun g hg => (n3.lt g hg).1
    rw [HX2.out] at n4
    have hB := hB3.trans (hb5.mono hB3.size)
    have n5 := n2.keep hb5
    clear hg g2 n3 hb4 n2 hb3
    obtain ⟨a1, c1, rfl, s1⟩ := n5.sl
    obtain ⟨a2, c2, rfl, s2⟩ := n4.sl
    clear n5 n4 hb5 hB3
    have h_ := V1 a1 c1 _ s1 hB
    go_wp2_with fail
    refine h_.mono ?_; rintro e_ w6 ⟨rfl, hb⟩
    replace hB := hB.trans (hb.mono hB.size)
    replace s1 := s1.below hb
    replace s2 := s2.below hb
    clear h_ hb
    have h_ := V2 a2 c2 _ s2 hB
    go_wp2_with fail
    refine h_.mono ?_; rintro e_ w7 ⟨rfl, hb⟩
    replace hB := hB.trans (hb.mono hB.size)
    replace s1 := s1.below hb
    replace s2 := s2.below hb
    clear h_ hb V1 V2
    by_cases e1 : k1 = 0
    · by_cases e2 : k2 = 0
      · have hx := ONE.out H32.out e1 e2
        have h_ := same13_c _ _ _ _ _ _ _ s1 s2
        rw [decide_eq_true hx] at h_
        have q1 : (k1 != 0) = false := by rw [e1]; rfl
        have q2 : (k2 != 0) = false := by rw [e2]; rfl
        clear hx e1 e2 ONE
        go_wp2_with fail
        refine h_.mono ?_; rintro e_ w8 ⟨rfl, hd_⟩
        replace hB := hB.trans (hd_.b.mono hB.size)
        go_wp2_with fail
        go_ret
        exact ⟨by first | done | rfl | simp, hB⟩
      · have q1 : (k1 != 0) = false := by rw [e1]; rfl
        have q2 : (k2 != 0) = true := by simpa using e2
        clear e1 e2 ONE
        go_wp2_with fail
        go_ret
        exact ⟨by first | done | rfl | simp, hB⟩
    · have q1 : (k1 != 0) = true := by simpa using e1
      clear e1 ONE
      go_wp2_with fail
      go_ret
      exact ⟨by first | done | rfl | simp, hB⟩
  · have hne : ((f.length : Int) != 32) = true := by simp; omega
    have h_ := AW w1 hB
    clear h32
    go_wp2_with fail
    refine h_.mono ?_; rintro e_ w2 ⟨rfl, hb⟩
    replace hB := hB.trans (hb.mono hB.size)
    go_wp2_with fail
    go_ret
    exact ⟨by first | done | rfl | simp, hB⟩
end Go.Proofs.YtlolkighnnedfaaDoor
