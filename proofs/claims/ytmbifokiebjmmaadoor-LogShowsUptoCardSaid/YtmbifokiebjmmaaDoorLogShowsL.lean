/- signetlaw36.LogShows by its contract. (Printed by gen_logshows.py.) -/
import Derived.Test.YtmbifokiebjmmaaDoorLogK
import Derived.Test.YtmbifokiebjmmaaDoorLogN
import Derived.Test.YtmbifokiebjmmaaDoorLogG
import Derived.Test.YtmbifokiebjmmaaDoorLogY
import Derived.Test.YtmbifokiebjmmaaDoorTotN
set_option linter.unusedVariables false
set_option linter.unusedSimpArgs false
namespace Go.Proofs.YtmbifokiebjmmaaDoor
open Go.RowKit Go.Sg

set_option maxHeartbeats 16000000 in
set_option maxRecDepth 20000 in
theorem LogShows_c (root leaf : List Int) (n i : Int) (A : Option Addr) (ca : Nat) (p : List (List Int)) (w : World) (ur : U8 root) (ul : U8 leaf) (bn : -9223372036854775808 ≤ n ∧ n ≤ 9223372036854775807) (bi : -9223372036854775808 ≤ i ∧ i ≤ 9223372036854775807)
    (sp : Ss w A ca p) (hz : root.length + leaf.length + (tot p + p.length) ≤ 1048576) (ht : ShaTabs w) (hr : RefTabs w) :
    Calls Tryd.prog 6 #[str root, .int .i64 n, str leaf, .int .i64 i, .slice A p.length ca] w (TruePost w) := by
  have tp : ∀ s ∈ p, s.length ≤ 1048576 := fun s hs => by have := tot_le s hs; omega
  have te : ∀ s ∈ [root, leaf], s.length ≤ 1048576 := fun s hs => by
    simp only [List.mem_cons, List.not_mem_nil, or_false] at hs
    rcases hs with rfl | rfl <;> omega
  have ue : ∀ s ∈ [root, leaf], U8 s := fun s hs => by
    simp only [List.mem_cons, List.not_mem_nil, or_false] at hs
    rcases hs with rfl | rfl
    · exact ur
    · exact ul
  -- a call of Check with what the two rows hold
  have chk : ∀ (W : World) (L M : Option Addr) (cL cM : Nat) (x y : List Int) (r : List (List Int)) (G H : Nat → Nat) (b1 b2 : Nat), MkW b1 W (.slice M 2 cM) H [x, y] → MkW b2 W (.slice L r.length cL) G r → U8 x → U8 y → (∀ s ∈ r, U8 s) → x.length ≤ 1048576 → y.length ≤ 1048576 → (∀ s ∈ r, s.length ≤ 1048576) → r.length ≤ 1048576 → Below w.heap.size w W →
      Calls Tryd.prog 24 #[.slice (some ⟨H 0, 0, none⟩) x.length (x.length + 70), .int .i64 n, .slice (some ⟨H 1, 0, none⟩) y.length (y.length + 70), .int .i64 i, .slice L r.length cL] W (TellPost (decide (growP x n y i r)) W) := by
    intro W L M cL cM x y r G H b1 b2 hE hm ux uy ur ux1 uy1 hrl hrn hb
    have rows := hm.rows ur (fun s hs => by have := hrl s hs; omega)
    have k0 := (hE.blk 0 (by simp)).2
    have k1 := (hE.blk 1 (by simp)).2
    have s0 : Sl .u8 W (some ⟨H 0, 0, none⟩) (x.length + 70) x := by
      have := k0.sl x.length (x.length + 70) (by omega) (by omega)
      rwa [show (([x, y] : List (List Int)).getD 0 []) = x from rfl, List.take_left] at this
    have s1 : Sl .u8 W (some ⟨H 1, 0, none⟩) (y.length + 70) y := by
      have := k1.sl y.length (y.length + 70) (by omega) (by omega)
      rwa [show (([x, y] : List (List Int)).getD 1 []) = y from rfl, List.take_left] at this
    have := Grown_c (some ⟨H 0, 0, none⟩) (some ⟨H 1, 0, none⟩) L (x.length + 70) (y.length + 70) cL x y (mparts G r) n i W s0 ux s1 uy rows (by rw [mparts_len]; omega) bi.2 (ht.below hb)
    rwa [mparts_xs, mparts_len] at this
  have rchk : ∀ (W : World) (L : Option Addr) (cL : Nat) (x y : List Int) (r : List (List Int)), Ss W L cL r → U8 x → U8 y → r.length ≤ 1048576 → Below w.heap.size w W →
      Calls Tryd.prog 25 #[str x, .int .i64 n, str y, .int .i64 i, .slice L r.length cL] W (TellPost (decide (growP x n y i r)) W) :=
    fun W L cL x y r h1 h2 h3 h4 h5 => rGrown_c L cL x y r n i W h2 h3 h1 (by omega) bi.2 (hr.below h5)
  have kp : ∀ (W : World) (L M : Option Addr) (cL cM : Nat) (r : List (List Int)) (G : Nat → Nat) (b : Nat), MkW b W (.slice L r.length cL) G r → Ss W M cM r → (∀ s ∈ r, s.length ≤ 1048576) → r.length ≤ 1048576 →
      Calls Tryd.prog 15 #[.slice L r.length cL, .slice M r.length cM] W (TellPost true W) := by
    intro W L M cL cM r G b h1 h2 h3 h4
    refine (kept_c b L M cL cM G r W h1 h2 (fun s hs => by have := h3 s hs; omega) (by omega)).mono ?_
    rintro e w' ⟨rfl, nd, rfl⟩
    exact ⟨rfl, below_drewN (.refl _ _) _⟩
  have cl1 := lists_c A ca p w sp (fun s hs => by have := tp s hs; omega) (by omega)
  unfold ListsPost at cl1
  obtain ⟨lp, hlp⟩ : ∃ l, l = p.length := ⟨_, rfl⟩
  have HLP := Lib.hid hlp
  have HZ := Lib.hid hz
  rw [← hlp] at cl1 ⊢
  clear hlp hz
  go_enter Tryd.func6, Tryd.ntmps6
  go_wp2_with fail
  refine cl1.mono ?_; rintro e w1 ⟨v1, G, rfl, hmB, hb1⟩
  obtain ⟨L, cL, rfl⟩ := hmB.sl
  rw [← HLP.out] at hmB ⊢
  have al := (Below.refl w1.heap.size w1).alloc (Nat.le_refl _) (.cells #[str root, str leaf] 9)
  have sE := ss_two w1 9 root leaf ur ul
  have cl2 := lists_c _ 2 [root, leaf] _ sE (fun s hs => by have := te s hs; omega) (by simp)
  unfold ListsPost at cl2
  simp only [List.length_cons, List.length_nil, Nat.zero_add, Nat.reduceAdd] at cl2
  clear cl1
  go_wp2_with fail
  refine cl2.mono ?_; rintro e w2 ⟨v2, H, rfl, hmE, hb2⟩
  obtain ⟨M, cM, rfl⟩ := hmE.sl
  have hbx := al.trans (hb2.mono al.size)
  have hB2 := hb1.trans (hbx.mono hb1.size)
  -- what came first lies under S, what came then above
  obtain ⟨S, hS⟩ : ∃ S, S = w1.heap.size := ⟨_, rfl⟩
  have lowB : ∀ j, j < p.length → G j < S := fun j hj => by rw [hS]; exact (hmB.blk j hj).2.lt
  have lowL : ∀ c, (Value.slice L lp cL).ownBlock = some c → c < S := fun c hc => by rw [hS]; exact (hmB.row.lt c hc).2
  have hmE' : MkW S w2 (.slice M 2 cM) H [root, leaf] := ⟨hmE.row.mono (by rw [hS]; exact al.size), fun j hj => ⟨Nat.le_trans (by rw [hS]; exact al.size) (hmE.blk j hj).1, (hmE.blk j hj).2⟩, hmE.apart⟩
  have wS : w.heap.size ≤ S := by rw [hS]; exact hb1.size
  have S2 : S ≤ w2.heap.size := by rw [hS]; exact hbx.size
  have hmB2 := hmB.keep hbx
  have LOW := Lib.hid (And.intro lowB lowL)
  have ELN : ([root, leaf] : List (List Int)).length = 2 := rfl
  clear cl2 hmB hmE hb1 hb2 hbx al sE hS lowB lowL
  rw [ELN]
  obtain ⟨gM, rfl, _, e0⟩ := hmE'.place (i := 0) (by simp)
  obtain ⟨_, eg, _, e1⟩ := hmE'.place (i := 1) (by simp)
  cases eg
  have q1 := chk (World.drew w2) L _ cL cM root leaf p G H _ _ hmE'.drew (by rw [← HLP.out]; exact hmB2.drew) ur ul sp.u8 (te _ (by simp)) (te _ (by simp)) tp (by have := HZ.out; omega) (below_drewN hB2 1)
  obtain ⟨lr, hlr⟩ : ∃ l, l = root.length := ⟨_, rfl⟩
  obtain ⟨ll, hll⟩ : ∃ l, l = leaf.length := ⟨_, rfl⟩
  have HLR := Lib.hid hlr
  have HLL := Lib.hid hll
  simp only [List.getD_cons_zero, List.getD_cons_succ, ← hlr, ← hll] at e0 e1
  rw [← hlr, ← hll, ← HLP.out] at q1
  obtain ⟨B1, hB1⟩ : ∃ b, b = decide (growP root n leaf i p) := ⟨_, rfl⟩
  rw [← hB1] at q1
  have HB1 := Lib.hid hB1
  clear hlr hll hB1
  go_wp2_with fail
  refine wp_region_still_tail 9 (by kernel_rfl) (by kernel_rfl) ?_
  simp only [List.take_succ_cons, List.take_zero, List.drop_succ_cons, List.drop_zero]
  repeat still_step
  refine wpStill_nil ?_
  change wpList _ _ _ _ _ (World.drew _)
  go_wp2_with fail
  refine q1.mono ?_; rintro e w3 ⟨rfl, hb3⟩
  have hB2d : Below w.heap.size w (World.drew w2) := below_drewN hB2 1
  have hB3 := hB2d.trans (hb3.mono hB2d.size)
  have hmE3 := hmE'.drew.keep hb3
  have hmB3 := hmB2.drew.keep hb3
  have q2 := rchk w3 A ca root leaf p (sp.below hB3) ur ul (by have := HZ.out; omega) hB3
  rw [← HLP.out, ← HB1.out] at q2
  have S3 : S ≤ w3.heap.size := Nat.le_trans S2 hb3.size
  clear q1 hmE' hmB2 hb3 hB2d hB2 S2
  go_wp2_with fail
  refine q2.mono ?_; rintro e w4 ⟨rfl, hb4⟩
  have hB4 := hB3.trans (hb4.mono hB3.size)
  have hmE4 := hmE3.keep hb4
  have hmB4 := hmB3.keep hb4
  have q3 := kp w4 L A cL ca p G _ (by rw [← HLP.out]; exact hmB4) (sp.below hB4) tp (by have := HZ.out; omega)
  rw [← HLP.out] at q3
  have S4 : S ≤ w4.heap.size := Nat.le_trans S3 hb4.size
  have bb1 : (B1 != B1) = false := by simp
  clear q2 hmE3 hmB3 hb4 hB3 S3
  go_wp2_with fail
  refine q3.mono ?_; rintro e w5 ⟨rfl, hb5⟩
  have hB5 := hB4.trans (hb5.mono hB4.size)
  have hmE5 := hmE4.keep hb5
  have hmB5 := hmB4.keep hb5
  have al5 := (Below.refl w5.heap.size w5).alloc (Nat.le_refl _) (.cells #[str root, str leaf] 9)
  have q4 := kp _ _ _ cM 2 [root, leaf] H _ (hmE5.keep al5) (ss_two w5 9 root leaf ur ul) te (by simp)
  rw [ELN] at q4
  have S5 : S ≤ w5.heap.size := Nat.le_trans S4 hb5.size
  clear q3 hmE4 hmB4 hb5 hB4 S4
  go_wp2_with fail
  refine q4.mono ?_; rintro e w6 ⟨rfl, hb6⟩
  have hbx6 := al5.trans (hb6.mono al5.size)
  have hB6 := hB5.trans (hbx6.mono hB5.size)
  have hmE6 := hmE5.keep hbx6
  have hmB6 := hmB5.keep hbx6
  have S6 : S ≤ w6.heap.size := Nat.le_trans S5 hbx6.size
  have q5 := turned36_c w.heap.size L cL G p w6 (by rw [← HLP.out]; exact hmB6) sp.u8 (fun s hs => by have := tp s hs; omega) (by have := HZ.out; omega) hB6.size
  unfold TurnedPost at q5
  rw [← HLP.out] at q5
  clear q4 hmE5 hmB5 hb6 hbx6 hB5 al5 S5
  go_wp2_with fail
  refine q5.mono ?_; rintro e w7 ⟨v7, rfl, hv7, hmB7, hb7, hf7⟩
  obtain ⟨P, hP⟩ : ∃ P, P = turn36 p := ⟨_, rfl⟩
  have PL : Hid (P.length = lp) := Lib.hid (by rw [hP, turn36_len, ← HLP.out])
  have uP : ∀ s ∈ P, U8 s := by rw [hP]; exact turn36_u8 p
  have tP : ∀ s ∈ P, s.length ≤ 1048576 := by rw [hP]; exact turn36_le tp
  rw [← hP] at hv7 hmB7
  have hmE7 := hmE6.fr_above S (Nat.le_refl _) (fun j hj => LOW.out.1 j (by rw [← HLP.out]; exact hj)) hf7
  have hB7 := hB6.trans hb7
  have S7 : S ≤ w7.heap.size := Nat.le_trans S6 hf7.1
  have n6 : ∀ c, v7.ownBlock = some c → w6.heap.size ≤ c := fun c hc => (hv7.lt c hc).1
  have hE6 : ∀ j, j < 2 → H j < w6.heap.size := fun j hj => (hmE6.blk j hj).2.lt
  have NE6 := Lib.hid (And.intro n6 hE6)
  have hv7w := hv7
  obtain ⟨X, cX, rfl, sX⟩ := hv7.ss uP
  have q6 := chk (World.drew w7) L _ cL cM root leaf P G H _ _ hmE7.drew (by rw [PL.out]; exact hmB7.drew) ur ul uP (te _ (by simp)) (te _ (by simp)) tP (by rw [PL.out, HLP.out]; have := HZ.out; omega) (below_drewN hB7 1)
  rw [PL.out, ← HLR.out, ← HLL.out] at q6
  rw [PL.out] at hv7w ⊢
  obtain ⟨B2, hB2'⟩ : ∃ b, b = decide (growP root n leaf i P) := ⟨_, rfl⟩
  rw [← hB2'] at q6
  have HB2 := Lib.hid hB2'
  obtain ⟨gM7, eg, _, e07⟩ := hmE7.place (i := 0) (by simp)
  cases eg
  obtain ⟨_, eg, _, e17⟩ := hmE7.place (i := 1) (by simp)
  cases eg
  simp only [List.getD_cons_zero, List.getD_cons_succ, ← HLR.out, ← HLL.out] at e07 e17
  have HPP := Lib.hid hP
  clear q5 hmE6 hmB6 hB6 hb7 hf7 hv7 n6 hE6 hP hB2' e0 e1 S6
  go_wp2_with fail
  refine wp_region_still_tail 9 (by kernel_rfl) (by kernel_rfl) ?_
  simp only [List.take_succ_cons, List.take_zero, List.drop_succ_cons, List.drop_zero]
  repeat still_step
  refine wpStill_nil ?_
  change wpList _ _ _ _ _ (World.drew _)
  go_wp2_with fail
  refine q6.mono ?_; rintro e w8 ⟨rfl, hb8⟩
  have hB7d : Below w.heap.size w (World.drew w7) := below_drewN hB7 1
  have hB8 := hB7d.trans (hb8.mono hB7d.size)
  have hmE8 := hmE7.drew.keep hb8
  have hmB8 := hmB7.drew.keep hb8
  have hv8 : NewV w6.heap.size 9 w8 (.slice X lp cX) (P.map str) := NewV.keep (w := World.drew w7) hv7w hb8
  have sX8 : Ss w8 X cX P := Ss.below (w := World.drew w7) (sX.drewN 1) hb8
  have q7 := rchk w8 X cX root leaf P sX8 ur ul (by rw [PL.out, HLP.out]; have := HZ.out; omega) hB8
  rw [PL.out, ← HB2.out] at q7
  have S8 : S ≤ w8.heap.size := Nat.le_trans S7 hb8.size
  have T8 : w7.heap.size ≤ w8.heap.size := hb8.size
  clear q6 hmE7 hmB7 hb8 hB7d hB7 hv7w sX sX8 S7 e07 e17
  go_wp2_with fail
  refine q7.mono ?_; rintro e w9 ⟨rfl, hb9⟩
  have hB9 := hB8.trans (hb9.mono hB8.size)
  have hmE9 := hmE8.keep hb9
  have hmB9 := hmB8.keep hb9
  have hv9 := hv8.keep hb9
  have S9 : S ≤ w9.heap.size := Nat.le_trans S8 hb9.size
  have bb2 : (B2 != B2) = false := by simp
  have q8 := turned36_c S (some ⟨gM, 0, none⟩) cM H [root, leaf] w9 hmE9 ue (fun s hs => by have := te s hs; omega) (by simp) S9
  unfold TurnedPost at q8
  rw [ELN] at q8
  clear q7 hmE8 hmB8 hb9 hB8 hv8 S8
  go_wp2_with fail
  refine q8.mono ?_; rintro e w10 ⟨v10, rfl, hvE, hmE10, hb10, hf10⟩
  obtain ⟨root', hroot'⟩ : ∃ x, x = tl36 0 root := ⟨_, rfl⟩
  obtain ⟨leaf', hleaf'⟩ : ∃ x, x = tl36 1 leaf := ⟨_, rfl⟩
  have eE : turn36 [root, leaf] = [root', leaf'] := by rw [hroot', hleaf']; rfl
  rw [eE] at hvE hmE10
  have ur' : U8 root' := by rw [hroot']; exact tl36_u8 _ _
  have ul' : U8 leaf' := by rw [hleaf']; exact tl36_u8 _ _
  have lr' : root'.length = lr := by rw [hroot', tl36_len, ← HLR.out]
  have ll' : leaf'.length = ll := by rw [hleaf', tl36_len, ← HLL.out]
  clear hroot' hleaf' eE
  have hB10 := hB9.trans (hb10.mono wS)
  have hmB10 := hmB9.fr_under LOW.out.2 (fun j hj => LOW.out.1 j (by rw [← HLP.out, ← PL.out]; exact hj)) (fun j hj => (hmE9.blk j hj).1) hf10
  have hv10 : NewV w6.heap.size 9 w10 (.slice X lp cX) (P.map str) := hv9.by_blocks (fun c hc => hf10.2 c (hv9.lt c hc).2 fun j hj e => by
    have h1 := NE6.out.1 c (by rw [PL.out]; exact hc)
    have h2 := NE6.out.2 j hj
    omega)
  have S10 : S ≤ w10.heap.size := Nat.le_trans S9 hf10.1
  obtain ⟨Y, cY, rfl, sY⟩ := hvE.ss (ss := [root', leaf']) (fun s hs => by
    simp only [List.mem_cons, List.not_mem_nil, or_false] at hs
    rcases hs with rfl | rfl
    · exact ur'
    · exact ul')
  have sX10 : Ss w10 X cX P := by
    have hv' : NewV w6.heap.size 9 w10 (.slice X P.length cX) (P.map str) := by rw [PL.out]; exact hv10
    obtain ⟨X', cX', ex, sx⟩ := hv'.ss uP
    simp only [Value.slice.injEq] at ex
    obtain ⟨rfl, _, rfl⟩ := ex
    exact sx
  obtain ⟨gY, oY, rfl, hcY⟩ := sY.at_ (by simp)
  have y0 := hcY 0 (by simp)
  have y1 := hcY 1 (by simp)
  obtain ⟨gM', eg, gMl, e0⟩ := hmE10.place (i := 0) (by simp)
  cases eg
  obtain ⟨_, eg, _, e1⟩ := hmE10.place (i := 1) (by simp)
  cases eg
  have gYl : gY < w10.heap.size := World.block_lt_of_cell? _ _ y0
  have ELN' : ([root', leaf'] : List (List Int)).length = 2 := rfl
  simp only [List.getD_cons_zero, List.getD_cons_succ, List.getElem_cons_zero, List.getElem_cons_succ, lr', ll', Nat.add_zero] at e0 e1 y0 y1
  rw [ELN']
  clear q8 hmE9 hmB9 hB9 hv9 hvE hcY hv10 hb10 hf10 S9
  go_wp2_with fail
  refine wp_region_held_drew (S := fun W => W.cell? ⟨gM, 0, none⟩ = some (.slice (some ⟨H 0, 0, none⟩) lr (lr + 70)) ∧ W.cell? ⟨gM, 1, none⟩ = some (.slice (some ⟨H 1, 0, none⟩) ll (ll + 70)) ∧ W.cell? ⟨gY, oY, none⟩ = some (str root') ∧ W.cell? ⟨gY, oY + 1, none⟩ = some (str leaf')) (by kernel_rfl) (⟨e0, e1, y0, y1⟩) (fun hS => ?_)
  refine wpAnyH_take (i := 0) (v := ?_) rfl (by kernel_rfl) (by kernel_rfl) (by kernel_rfl) (fun _ _ _ h => h) (Or.inl ⟨by rfl, ?_⟩) hS ?_
  rotate_left
  · intro w _; go_simp; try with_reducible rfl
  simp only [List.getElem_toArray, List.getElem_cons_zero, List.getElem_cons_succ, Act.put, List.setIfInBounds_toArray, List.set_cons_zero, List.set_cons_succ]
  refine wpAnyH_take (i := 1) (v := ?_) rfl (by kernel_rfl) (by kernel_rfl) (by kernel_rfl) (fun _ _ _ h => h) (Or.inl ⟨by rfl, ?_⟩) hS ?_
  rotate_left
  · intro w _; go_simp; try with_reducible rfl
  simp only [List.getElem_toArray, List.getElem_cons_zero, List.getElem_cons_succ, Act.put, List.setIfInBounds_toArray, List.set_cons_zero, List.set_cons_succ]
  refine wpAnyH_take (i := 2) (v := ?_) rfl (by kernel_rfl) (by kernel_rfl) (by kernel_rfl) (fun _ _ _ h => h) (Or.inl ⟨by rfl, ?_⟩) hS ?_
  rotate_left
  · intro W_ hW_; obtain ⟨c1_, c2_, c3_, c4_⟩ := hW_; go_simp; try with_reducible rfl
  simp only [List.getElem_toArray, List.getElem_cons_zero, List.getElem_cons_succ, Act.put, List.setIfInBounds_toArray, List.set_cons_zero, List.set_cons_succ]
  refine wpAnyH_take (i := 3) (v := ?_) rfl (by kernel_rfl) (by kernel_rfl) (by kernel_rfl) (fun _ _ _ h => h) (Or.inl ⟨by rfl, ?_⟩) hS ?_
  rotate_left
  · intro w _; go_simp; try with_reducible rfl
  simp only [List.getElem_toArray, List.getElem_cons_zero, List.getElem_cons_succ, Act.put, List.setIfInBounds_toArray, List.set_cons_zero, List.set_cons_succ]
  refine wpAnyH_take (i := 4) (v := ?_) rfl (by kernel_rfl) (by kernel_rfl) (by kernel_rfl) (fun _ _ _ h => h) (Or.inl ⟨by rfl, ?_⟩) hS ?_
  rotate_left
  · intro w _; go_simp; try with_reducible rfl
  simp only [List.getElem_toArray, List.getElem_cons_zero, List.getElem_cons_succ, Act.put, List.setIfInBounds_toArray, List.set_cons_zero, List.set_cons_succ]
  refine wpAnyH_take (i := 5) (v := ?_) rfl (by kernel_rfl) (by kernel_rfl) (by kernel_rfl) (fun _ _ _ h => h) (Or.inl ⟨by rfl, ?_⟩) hS ?_
  rotate_left
  · intro w _; go_simp; try with_reducible rfl
  simp only [List.getElem_toArray, List.getElem_cons_zero, List.getElem_cons_succ, Act.put, List.setIfInBounds_toArray, List.set_cons_zero, List.set_cons_succ]
  refine wpAnyH_take (i := 6) (v := ?_) rfl (by kernel_rfl) (by kernel_rfl) (by kernel_rfl) (fun _ _ _ h => h) (Or.inl ⟨by rfl, ?_⟩) hS ?_
  rotate_left
  · intro W_ hW_; obtain ⟨c1_, c2_, c3_, c4_⟩ := hW_; go_simp; try with_reducible rfl
  simp only [List.getElem_toArray, List.getElem_cons_zero, List.getElem_cons_succ, Act.put, List.setIfInBounds_toArray, List.set_cons_zero, List.set_cons_succ]
  refine wpAnyH_take (i := 7) (v := ?_) rfl (by kernel_rfl) (by kernel_rfl) (by kernel_rfl) (fun _ _ _ h => h) (Or.inl ⟨by rfl, ?_⟩) hS ?_
  rotate_left
  · intro w _; go_simp; try with_reducible rfl
  simp only [List.getElem_toArray, List.getElem_cons_zero, List.getElem_cons_succ, Act.put, List.setIfInBounds_toArray, List.set_cons_zero, List.set_cons_succ]
  refine wpAnyH_take (i := 8) (v := ?_) rfl (by kernel_rfl) (by kernel_rfl) (by kernel_rfl) (fun _ _ _ h => h) (Or.inl ⟨by rfl, ?_⟩) hS ?_
  rotate_left
  · intro w _; go_simp; try with_reducible rfl
  simp only [List.getElem_toArray, List.getElem_cons_zero, List.getElem_cons_succ, Act.put, List.setIfInBounds_toArray, List.set_cons_zero, List.set_cons_succ]
  refine wpAnyH_take (i := 10) (v := ?_) rfl (by kernel_rfl) (by kernel_rfl) (by kernel_rfl) (fun _ _ _ h => h) (Or.inl ⟨by rfl, ?_⟩) hS ?_
  rotate_left
  · intro w _; go_simp; try with_reducible rfl
  simp only [List.getElem_toArray, List.getElem_cons_zero, List.getElem_cons_succ, Act.put, List.setIfInBounds_toArray, List.set_cons_zero, List.set_cons_succ]
  refine wpAnyH_take (i := 11) (v := ?_) rfl (by kernel_rfl) (by kernel_rfl) (by kernel_rfl) (fun _ _ _ h => h) (Or.inl ⟨by rfl, ?_⟩) hS ?_
  rotate_left
  · intro w _; go_simp; try with_reducible rfl
  simp only [List.getElem_toArray, List.getElem_cons_zero, List.getElem_cons_succ, Act.put, List.setIfInBounds_toArray, List.set_cons_zero, List.set_cons_succ]
  refine wpAnyH_take (i := 12) (v := ?_) rfl (by kernel_rfl) (by kernel_rfl) (by kernel_rfl) (fun _ _ _ h => h) (Or.inl ⟨by rfl, ?_⟩) hS ?_
  rotate_left
  · intro W_ hW_; obtain ⟨c1_, c2_, c3_, c4_⟩ := hW_; go_simp; try with_reducible rfl
  simp only [List.getElem_toArray, List.getElem_cons_zero, List.getElem_cons_succ, Act.put, List.setIfInBounds_toArray, List.set_cons_zero, List.set_cons_succ]
  refine wpAnyH_take (i := 13) (v := ?_) rfl (by kernel_rfl) (by kernel_rfl) (by kernel_rfl) (fun _ _ _ h => h) (Or.inl ⟨by rfl, ?_⟩) hS ?_
  rotate_left
  · intro w _; go_simp; try with_reducible rfl
  simp only [List.getElem_toArray, List.getElem_cons_zero, List.getElem_cons_succ, Act.put, List.setIfInBounds_toArray, List.set_cons_zero, List.set_cons_succ]
  refine wpAnyH_take (i := 14) (v := ?_) rfl (by kernel_rfl) (by kernel_rfl) (by kernel_rfl) (fun _ _ _ h => h) (Or.inl ⟨by rfl, ?_⟩) hS ?_
  rotate_left
  · intro w _; go_simp; try with_reducible rfl
  simp only [List.getElem_toArray, List.getElem_cons_zero, List.getElem_cons_succ, Act.put, List.setIfInBounds_toArray, List.set_cons_zero, List.set_cons_succ]
  refine wpAnyH_take (i := 15) (v := ?_) rfl (by kernel_rfl) (by kernel_rfl) (by kernel_rfl) (fun _ _ _ h => h) (Or.inl ⟨by rfl, ?_⟩) hS ?_
  rotate_left
  · intro w _; go_simp; try with_reducible rfl
  simp only [List.getElem_toArray, List.getElem_cons_zero, List.getElem_cons_succ, Act.put, List.setIfInBounds_toArray, List.set_cons_zero, List.set_cons_succ]
  refine wpAnyH_take (i := 16) (v := ?_) rfl (by kernel_rfl) (by kernel_rfl) (by kernel_rfl) (fun _ _ _ h => h) (Or.inl ⟨by rfl, ?_⟩) hS ?_
  rotate_left
  · intro W_ hW_; obtain ⟨c1_, c2_, c3_, c4_⟩ := hW_; go_simp; try with_reducible rfl
  simp only [List.getElem_toArray, List.getElem_cons_zero, List.getElem_cons_succ, Act.put, List.setIfInBounds_toArray, List.set_cons_zero, List.set_cons_succ]
  refine wpAnyH_take (i := 17) (v := ?_) rfl (by kernel_rfl) (by kernel_rfl) (by kernel_rfl) (fun _ _ _ h => h) (Or.inl ⟨by rfl, ?_⟩) hS ?_
  rotate_left
  · intro w _; go_simp; try with_reducible rfl
  simp only [List.getElem_toArray, List.getElem_cons_zero, List.getElem_cons_succ, Act.put, List.setIfInBounds_toArray, List.set_cons_zero, List.set_cons_succ]
  refine wpAnyH_take (i := 18) (v := ?_) rfl (by kernel_rfl) (by kernel_rfl) (by kernel_rfl) (fun _ _ _ h => h) (Or.inl ⟨by rfl, ?_⟩) hS ?_
  rotate_left
  · intro w _; go_simp; try with_reducible rfl
  simp only [List.getElem_toArray, List.getElem_cons_zero, List.getElem_cons_succ, Act.put, List.setIfInBounds_toArray, List.set_cons_zero, List.set_cons_succ]
  have KEEP : ∀ (V V' : World), gM < V.heap.size ∧ gY < V.heap.size → Below V.heap.size V V' → (V.cell? ⟨gM, 0, none⟩ = some (.slice (some ⟨H 0, 0, none⟩) lr (lr + 70)) ∧ V.cell? ⟨gM, 1, none⟩ = some (.slice (some ⟨H 1, 0, none⟩) ll (ll + 70)) ∧ V.cell? ⟨gY, oY, none⟩ = some (str root') ∧ V.cell? ⟨gY, oY + 1, none⟩ = some (str leaf')) →
      (V'.cell? ⟨gM, 0, none⟩ = some (.slice (some ⟨H 0, 0, none⟩) lr (lr + 70)) ∧ V'.cell? ⟨gM, 1, none⟩ = some (.slice (some ⟨H 1, 0, none⟩) ll (ll + 70)) ∧ V'.cell? ⟨gY, oY, none⟩ = some (str root') ∧ V'.cell? ⟨gY, oY + 1, none⟩ = some (str leaf')) := by
    intro V V' hl hb h
    refine ⟨?_, ?_, ?_, ?_⟩
    · rw [World.cell?_of_block (w := V) (hb.block gM hl.1)]; exact h.1
    · rw [World.cell?_of_block (w := V) (hb.block gM hl.1)]; exact h.2.1
    · rw [World.cell?_of_block (w := V) (hb.block gY hl.2)]; exact h.2.2.1
    · rw [World.cell?_of_block (w := V) (hb.block gY hl.2)]; exact h.2.2.2
  have KP := Lib.hid KEEP
  clear KEEP
  obtain ⟨W, hW⟩ : ∃ W, W = World.drew w10 := ⟨_, rfl⟩
  have hBW : Below w.heap.size w W := by rw [hW]; exact below_drewN hB10 1
  have hmEW : MkW S W (.slice (some ⟨gM, 0, none⟩) 2 cM) H [root', leaf'] := by rw [hW]; exact hmE10.drew
  have hmBW : MkW w.heap.size W (.slice L lp cL) G P := by rw [hW]; exact hmB10.drew
  have sXW : Ss W X cX P := by rw [hW]; exact sX10.drewN 1
  have sYW : Ss W (some ⟨gY, oY, none⟩) cY [root', leaf'] := by rw [hW]; exact sY.drewN 1
  have lW : gM < W.heap.size ∧ gY < W.heap.size := by rw [hW]; exact ⟨gMl, gYl⟩
  rw [← hW] at hS ⊢
  have te' : root'.length ≤ 1048576 ∧ leaf'.length ≤ 1048576 := by rw [lr', ll', HLR.out, HLL.out]; have := HZ.out; omega
  have q9 := chk W L _ cL cM root' leaf' P G H _ _ hmEW (by rw [PL.out]; exact hmBW) ur' ul' uP te'.1 te'.2 tP (by rw [PL.out, HLP.out]; have := HZ.out; omega) hBW
  rw [PL.out, lr', ll'] at q9
  obtain ⟨B3, hB3'⟩ : ∃ b, b = decide (growP root' n leaf' i P) := ⟨_, rfl⟩
  rw [← hB3'] at q9
  have HB3 := Lib.hid hB3'
  clear hW hB3' hB10 hmE10 hmB10 sX10 sY e0 e1 y0 y1 gMl gYl
  refine wpAnyH_ready (rs := [9]) (by kernel_rfl) (by simp) ?_
  refine AllReadyH.cons rfl (fun K hK => ?_) AllReadyH.nil
  rw [if_pos (by rfl)]
  simp only [List.getElem_toArray, List.getElem_cons_zero, List.getElem_cons_succ]
  go_simp
  refine q9.mono ?_; rintro e_ w11 ⟨rfl, hb11⟩
  dsimp only
  refine hK.out _ _ (KP.out _ _ lW hb11 hS) (fun hS => ?_)
  have hB11 := hBW.trans (hb11.mono hBW.size)
  have hmE11 := hmEW.keep hb11
  have hmB11 := hmBW.keep hb11
  have sX11 := sXW.below hb11
  have sY11 := sYW.below hb11
  have l11 : gM < w11.heap.size ∧ gY < w11.heap.size := ⟨Nat.lt_of_lt_of_le lW.1 hb11.size, Nat.lt_of_lt_of_le lW.2 hb11.size⟩
  have q10 := rchk w11 X cX root' leaf' P sX11 ur' ul' (by rw [PL.out, HLP.out]; have := HZ.out; omega) hB11
  rw [PL.out, ← HB3.out] at q10
  clear q9 hmEW hmBW sXW sYW hb11 hBW lW chk
  refine wpAnyH_ready (rs := [19]) (by kernel_rfl) (by simp) ?_
  refine AllReadyH.cons rfl (fun K hK => ?_) AllReadyH.nil
  rw [if_pos (by rfl)]
  simp only [List.getElem_toArray, List.getElem_cons_zero, List.getElem_cons_succ]
  go_simp
  refine q10.mono ?_; rintro e_ w12 ⟨rfl, hb12⟩
  dsimp only
  refine hK.out _ _ (KP.out _ _ l11 hb12 hS) (fun hS => ?_)
  have hB12 := hB11.trans (hb12.mono hB11.size)
  have hmE12 := hmE11.keep hb12
  have hmB12 := hmB11.keep hb12
  have sX12 := sX11.below hb12
  have sY12 := sY11.below hb12
  have l12 : gM < w12.heap.size ∧ gY < w12.heap.size := ⟨Nat.lt_of_lt_of_le l11.1 hb12.size, Nat.lt_of_lt_of_le l11.2 hb12.size⟩
  have q11 := kp w12 L X cL cX P G _ (by rw [PL.out]; exact hmB12) sX12 tP (by rw [PL.out, HLP.out]; have := HZ.out; omega)
  rw [PL.out] at q11
  have bb3 : (B3 == B3) = true := by simp
  clear q10 hmE11 hmB11 sX11 sY11 hb12 hB11 l11
  refine wpAnyH_ready (rs := [20]) (by kernel_rfl) (by simp) ?_
  refine AllReadyH.cons rfl (fun K hK => ?_) AllReadyH.nil
  rw [if_pos (by rfl)]
  simp only [List.getElem_toArray, List.getElem_cons_zero, List.getElem_cons_succ]
  go_simp
  refine hK.out _ _ hS (fun hS => ?_)
  refine wpAnyH_ready (rs := [21]) (by kernel_rfl) (by simp) ?_
  refine AllReadyH.cons rfl (fun K hK => ?_) AllReadyH.nil
  rw [if_pos (by rfl)]
  simp only [List.getElem_toArray, List.getElem_cons_zero, List.getElem_cons_succ]
  go_simp
  refine hK.out _ _ hS (fun hS => ?_)
  refine wpAnyH_take (i := 22) (v := ?_) rfl (by kernel_rfl) (by kernel_rfl) (by kernel_rfl) (fun _ _ _ h => h) (Or.inl ⟨by rfl, ?_⟩) hS ?_
  rotate_left
  · intro w _; go_simp; try with_reducible rfl
  simp only [List.getElem_toArray, List.getElem_cons_zero, List.getElem_cons_succ, Act.put, List.setIfInBounds_toArray, List.set_cons_zero, List.set_cons_succ]
  refine wpAnyH_take (i := 23) (v := ?_) rfl (by kernel_rfl) (by kernel_rfl) (by kernel_rfl) (fun _ _ _ h => h) (Or.inl ⟨by rfl, ?_⟩) hS ?_
  rotate_left
  · intro w _; go_simp; try with_reducible rfl
  simp only [List.getElem_toArray, List.getElem_cons_zero, List.getElem_cons_succ, Act.put, List.setIfInBounds_toArray, List.set_cons_zero, List.set_cons_succ]
  refine wpAnyH_ready (rs := [24]) (by kernel_rfl) (by simp) ?_
  refine AllReadyH.cons rfl (fun K hK => ?_) AllReadyH.nil
  rw [if_pos (by rfl)]
  simp only [List.getElem_toArray, List.getElem_cons_zero, List.getElem_cons_succ]
  go_simp
  refine q11.mono ?_; rintro e_ w13 ⟨rfl, hb13⟩
  dsimp only
  refine hK.out _ _ (KP.out _ _ l12 hb13 hS) (fun hS => ?_)
  have hB13 := hB12.trans (hb13.mono hB12.size)
  have q12 := kp w13 _ _ cM cY [root', leaf'] H _ (hmE12.keep hb13) (sY12.below hb13) (fun s hs => by
    simp only [List.mem_cons, List.not_mem_nil, or_false] at hs
    rcases hs with rfl | rfl
    · exact te'.1
    · exact te'.2) (by simp)
  rw [ELN'] at q12
  have l13 : gM < w13.heap.size ∧ gY < w13.heap.size := ⟨Nat.lt_of_lt_of_le l12.1 hb13.size, Nat.lt_of_lt_of_le l12.2 hb13.size⟩
  clear q11 hmE12 hmB12 sX12 sY12 hb13 hB12 l12
  refine wpAnyH_ready (rs := [25]) (by kernel_rfl) (by simp) ?_
  refine AllReadyH.cons rfl (fun K hK => ?_) AllReadyH.nil
  rw [if_pos (by rfl)]
  simp only [List.getElem_toArray, List.getElem_cons_zero, List.getElem_cons_succ]
  go_simp
  refine hK.out _ _ hS (fun hS => ?_)
  refine wpAnyH_ready (rs := [26]) (by kernel_rfl) (by simp) ?_
  refine AllReadyH.cons rfl (fun K hK => ?_) AllReadyH.nil
  rw [if_pos (by rfl)]
  simp only [List.getElem_toArray, List.getElem_cons_zero, List.getElem_cons_succ]
  go_simp
  refine hK.out _ _ hS (fun hS => ?_)
  refine wpAnyH_take (i := 27) (v := ?_) rfl (by kernel_rfl) (by kernel_rfl) (by kernel_rfl) (fun _ _ _ h => h) (Or.inl ⟨by rfl, ?_⟩) hS ?_
  rotate_left
  · intro w _; go_simp; try with_reducible rfl
  simp only [List.getElem_toArray, List.getElem_cons_zero, List.getElem_cons_succ, Act.put, List.setIfInBounds_toArray, List.set_cons_zero, List.set_cons_succ]
  refine wpAnyH_take (i := 28) (v := ?_) rfl (by kernel_rfl) (by kernel_rfl) (by kernel_rfl) (fun _ _ _ h => h) (Or.inl ⟨by rfl, ?_⟩) hS ?_
  rotate_left
  · intro w _; go_simp; try with_reducible rfl
  simp only [List.getElem_toArray, List.getElem_cons_zero, List.getElem_cons_succ, Act.put, List.setIfInBounds_toArray, List.set_cons_zero, List.set_cons_succ]
  refine wpAnyH_ready (rs := [29]) (by kernel_rfl) (by simp) ?_
  refine AllReadyH.cons rfl (fun K hK => ?_) AllReadyH.nil
  rw [if_pos (by rfl)]
  simp only [List.getElem_toArray, List.getElem_cons_zero, List.getElem_cons_succ]
  go_simp
  refine q12.mono ?_; rintro e_ w14 ⟨rfl, hb14⟩
  dsimp only
  refine hK.out _ _ (KP.out _ _ l13 hb14 hS) (fun hS => ?_)
  have hB14 := hB13.trans (hb14.mono hB13.size)
  refine wpAnyH_ready (rs := [30]) (by kernel_rfl) (by simp) ?_
  refine AllReadyH.cons rfl (fun K hK => ?_) AllReadyH.nil
  rw [if_pos (by rfl)]
  simp only [List.getElem_toArray, List.getElem_cons_zero, List.getElem_cons_succ]
  go_simp
  refine hK.out _ _ hS (fun hS => ?_)
  refine wpAnyH_ready (rs := [31]) (by kernel_rfl) (by simp) ?_
  refine AllReadyH.cons rfl (fun K hK => ?_) AllReadyH.nil
  rw [if_pos (by rfl)]
  simp only [List.getElem_toArray, List.getElem_cons_zero, List.getElem_cons_succ]
  go_simp
  refine hK.out _ _ hS (fun hS => ?_)
  refine wpAnyH_done (by kernel_rfl) ?_ _
  go_wp2_with fail
  go_ret
  exact ⟨rfl, hB14⟩
end Go.Proofs.YtmbifokiebjmmaaDoor
