/- package log: both by its contract. -/
import Derived.Test.YtmbifokiebjmmaaDoorLogC
import Derived.Test.YtmbifokiebjmmaaDoorLogW
import Derived.Test.YtmbifokiebjmmaaDoorWideR
set_option linter.unusedVariables false
set_option linter.unusedSimpArgs false
namespace Go.Proofs.YtmbifokiebjmmaaDoor
open Go.RowKit Go.Sg
def BothPost (r : Option (List Int × List Int)) (w : World) (e : Ending) (w' : World) : Prop := ∃ x y ok, e = .returned (.tuple #[dval x, dval y, .bool ok]) ∧ Dig x ∧ Dig y ∧ r = (if ok = true then some (x, y) else none) ∧ Below w.heap.size w w'
theorem BothPost.of {r : Option (List Int × List Int)} {w w' : World} {l : List (Nat × List Int)} {x y : List Int} {ok : Bool} (V : Vars 64 w w' l) (dx : Dig x) (dy : Dig y) (h : r = (if ok = true then some (x, y) else none)) : BothPost r w (.returned (.tuple #[dval x, dval y, .bool ok])) w' :=
  ⟨x, y, ok, rfl, dx, dy, h, V.below⟩
set_option maxHeartbeats 16000000 in
set_option maxRecDepth 20000 in
theorem both_c (N : Nat) : ∀ (n : Nat), n ≤ N → ∀ (h m : Nat) (wh : Bool) (d : List Int) (a : Option Addr) (cap : Nat) (p : List (List Int)) (w : World), 1 ≤ m → m ≤ n → n ≤ 2 ^ h → n ≤ 9223372036854775807 → Dig d → SlD w a cap p → ShaTabs w →
    Calls Tryd.prog 52 #[.int .i64 (m : Int), .int .i64 (n : Int), .bool wh, dval d, .slice a p.length cap] w (BothPost (bothH pairD h n m wh d p) w) := by
  induction N with
  | zero => intro n hN h m wh d a cap p w h1 hmn; omega
  | succ N IH =>
    intro n hN h m wh d a cap p w h1 hmn hh hm dd sp ht
    obtain ⟨L, hL⟩ : ∃ L, L = p.length := ⟨_, rfl⟩
    have HL := Lib.hid hL
    rw [← hL]
    clear hL
    go_enter Tryd.func52, Tryd.ntmps52
    have V0 := Vars.start 64 w
    go_wp2_with (refine wpList_box_D rfl 64 _ rfl d rfl ?_)
    intro w1 hk_ hs_ hb_
    have V1 := Vars.add V0 hk_ hb_ dd
    obtain ⟨g1, hg_⟩ : ∃ g, g = w.heap.size := ⟨_, rfl⟩
    rw [← hg_] at V1 ⊢
    simp only [List.nil_append, List.cons_append] at V1
    clear hk_ hs_ hb_ hg_
    go_wp2_with (with_reducible refine wpList_alloc_rw rfl 64 rfl (noDig.map (Value.int .u8)) _ zeroD ?_)
    intro w2 hk_ hs_ hb_
    have V2 := Vars.add V1 hk_ hb_ dig_no
    obtain ⟨g2, hg_⟩ : ∃ g, g = w1.heap.size := ⟨_, rfl⟩
    rw [← hg_] at V2 ⊢
    simp only [List.nil_append, List.cons_append] at V2
    clear hk_ hs_ hb_ hg_
    go_wp2_with (with_reducible refine wpList_alloc_rw rfl 64 rfl (noDig.map (Value.int .u8)) _ zeroD ?_)
    intro w3 hk_ hs_ hb_
    have V3 := Vars.add V2 hk_ hb_ dig_no
    obtain ⟨g3, hg_⟩ : ∃ g, g = w2.heap.size := ⟨_, rfl⟩
    rw [← hg_] at V3 ⊢
    simp only [List.nil_append, List.cons_append] at V3
    clear hk_ hs_ hb_ hg_
    clear V0 V1 V2
    by_cases hsame : m = n
    · subst hsame
      cases wh with
      | true =>
        have e : Hid (bothH pairD h m m true d p = if ((L : Int) == 0) = true then some (d, d) else none) := Lib.hid (by
          rw [bothH_same, HL.out]
          unfold lastB
          by_cases h0 : p = []
          · subst h0; rfl
          · have : 0 < p.length := List.length_pos_iff.2 h0
            rw [if_pos rfl, if_neg h0, if_neg (by simp; omega)])
        go_wp2_with fail
        refine wp_region_held_drew (S := fun W => Has 64 W [(g1, d)]) (by kernel_rfl) ((Has.sub (Vars.has (V3.drew 1)) (by intro p hp; simp only [List.mem_cons, List.not_mem_nil, or_false] at hp ⊢; subst hp; simp))) (fun hS => ?_)
        refine wpAnyH_take (i := 0) (v := dval d) rfl (by kernel_rfl) (by kernel_rfl) (by kernel_rfl) (fun _ _ _ h => h) (yieldsIf_load_D (by rfl) 64 _ rfl g1 (0) rfl d dd _ (fun W h => Has.rng h (i := 0) rfl) Tryd.underlying64 rfl sizeD) hS ?_
        refine wpAnyH_take (i := 1) (v := dval d) rfl (by kernel_rfl) (by kernel_rfl) (by kernel_rfl) (fun _ _ _ h => h) (yieldsIf_load_D (by rfl) 64 _ rfl g1 (0) rfl d dd _ (fun W h => Has.rng h (i := 0) rfl) Tryd.underlying64 rfl sizeD) hS ?_
        refine wpAnyH_take (i := 2) (v := ?_) rfl (by kernel_rfl) (by kernel_rfl) (by kernel_rfl) (fun _ _ _ h => h) (Or.inl ⟨by rfl, ?_⟩) hS ?_
        rotate_left
        · intro w _; go_simp; try with_reducible rfl
        simp only [List.getElem_toArray, List.getElem_cons_zero, List.getElem_cons_succ, Act.put, List.setIfInBounds_toArray, List.set_cons_zero, List.set_cons_succ]
        refine wpAnyH_take (i := 3) (v := ?_) rfl (by kernel_rfl) (by kernel_rfl) (by kernel_rfl) (fun _ _ _ h => h) (Or.inl ⟨by rfl, ?_⟩) hS ?_
        rotate_left
        · intro w _; go_simp; try with_reducible rfl
        simp only [List.getElem_toArray, List.getElem_cons_zero, List.getElem_cons_succ, Act.put, List.setIfInBounds_toArray, List.set_cons_zero, List.set_cons_succ]
        refine wpAnyH_take (i := 4) (v := ?_) rfl (by kernel_rfl) (by kernel_rfl) (by kernel_rfl) (fun _ _ _ h => h) (Or.inl ⟨by rfl, ?_⟩) hS ?_
        rotate_left
        · intro w _; go_simp; try with_reducible rfl
        simp only [List.getElem_toArray, List.getElem_cons_zero, List.getElem_cons_succ, Act.put, List.setIfInBounds_toArray, List.set_cons_zero, List.set_cons_succ]
        have Vd := V3.drew 1
        change Vars _ w (World.drew w3) _ at Vd
        obtain ⟨W, hW⟩ : ∃ W, W = World.drew w3 := ⟨_, rfl⟩
        rw [← hW] at hS Vd ⊢
        clear hW V3
        refine wpAnyH_ready (rs := [5]) (by kernel_rfl) (by simp) ?_
        refine AllReadyH.cons rfl (fun K hK => ?_) AllReadyH.nil
        rw [if_pos (by rfl)]
        simp only [List.getElem_toArray, List.getElem_cons_zero, List.getElem_cons_succ]
        refine wp_store_V 64 _ _ rfl g2 64 noDig d rfl rfl (Vars.at_ Vd (i := 1) rfl) dig_no dd sizeD ?_
        intro w5 hk_ hg_ hs_
        have V5 := Vars.set Vd 1 (g := g2) rfl hk_ hg_ dd
        simp only [List.set_cons_zero, List.set_cons_succ] at V5
        clear hk_ hg_ hs_ Vd
        refine hK.out _ _ (Has.sub V5.has (by intro p hp; simp only [List.mem_cons, List.not_mem_nil, or_false] at hp ⊢; subst hp; simp)) (fun hS => ?_)
        refine wpAnyH_ready (rs := [6]) (by kernel_rfl) (by simp) ?_
        refine AllReadyH.cons rfl (fun K hK => ?_) AllReadyH.nil
        rw [if_pos (by rfl)]
        simp only [List.getElem_toArray, List.getElem_cons_zero, List.getElem_cons_succ]
        refine wp_store_V 64 _ _ rfl g3 64 noDig d rfl rfl (Vars.at_ V5 (i := 2) rfl) dig_no dd sizeD ?_
        intro w6 hk_ hg_ hs_
        have V6 := Vars.set V5 2 (g := g3) rfl hk_ hg_ dd
        simp only [List.set_cons_zero, List.set_cons_succ] at V6
        clear hk_ hg_ hs_ V5
        refine hK.out _ _ (Has.sub V6.has (by intro p hp; simp only [List.mem_cons, List.not_mem_nil, or_false] at hp ⊢; subst hp; simp)) (fun hS => ?_)
        refine wpAnyH_ready (rs := [7]) (by kernel_rfl) (by simp) ?_
        refine AllReadyH.cons rfl (fun K hK => ?_) AllReadyH.nil
        rw [if_pos (by rfl)]
        simp only [List.getElem_toArray, List.getElem_cons_zero, List.getElem_cons_succ]
        go_simp
        refine hK.out _ _ hS (fun hS => ?_)
        refine wpAnyH_done (by kernel_rfl) ?_ _
        clear hS
        go_wp2_with fail
        exact bodyPost_ret (v := .tuple #[dval d, dval d, .bool ((L : Int) == 0)]) (results_dig2_tmp (p := 10) (q := 11) (u := 12) rfl rfl rfl (Vars.at_ V6 (i := 1) rfl) (Vars.at_ V6 (i := 2) rfl) dd dd Tryd.underlying64 rfl sizeD) rfl (BothPost.of V6 dd dd e.out)
      | false =>
        rcases snoc_cases p with rfl | ⟨q, z, rfl⟩
        · obtain rfl : L = 0 := HL.out
          have e : Hid (bothH pairD h m m false d [] = none) := Lib.hid (by rw [bothH_same]; rfl)
          go_wp2_with (first | (refine wpList_build0 rfl 64 rfl bltD ?_) | (refine wpList_store_V rfl 64 _ _ rfl g2 64 noDig noDig rfl rfl (Vars.at_ V3 (i := 1) rfl) (Vars.dig V3 (i := 1) rfl) dig_no sizeD ?_))
          intro w5 hk_ hg_ hs_
          have V5 := Vars.set V3 1 (g := g2) rfl hk_ hg_ dig_no
          simp only [List.set_cons_zero, List.set_cons_succ] at V5
          clear hk_ hg_ hs_ V3
          go_wp2_with (refine wpList_store_V rfl 64 _ _ rfl g3 64 noDig noDig rfl rfl (Vars.at_ V5 (i := 2) rfl) (Vars.dig V5 (i := 2) rfl) dig_no sizeD ?_)
          intro w6 hk_ hg_ hs_
          have V6 := Vars.set V5 2 (g := g3) rfl hk_ hg_ dig_no
          simp only [List.set_cons_zero, List.set_cons_succ] at V6
          clear hk_ hg_ hs_ V5
          go_wp2_with fail
          exact bodyPost_ret (v := .tuple #[dval noDig, dval noDig, .bool false]) (results_dig2_tmp (p := 10) (q := 11) (u := 12) rfl rfl rfl (Vars.at_ V6 (i := 1) rfl) (Vars.at_ V6 (i := 2) rfl) dig_no dig_no Tryd.underlying64 rfl sizeD) rfl (BothPost.of V6 dig_no dig_no (by rw [e.out]; rfl))
        · obtain ⟨M, hM⟩ : ∃ M, M = q.length := ⟨_, rfl⟩
          have HM := Lib.hid hM
          obtain rfl : L = M + 1 := by rw [HL.out, hM]; simp
          have dz : Dig z := sp.dig z (by simp)
          obtain ⟨b, off, rfl, hr⟩ := sp.last
          rw [← hM] at hr
          have ml : M + 1 ≤ cap := by have := sp.le; simp at this; omega
          have sq := sp.take M
          rw [show (q ++ [z]).take M = q by rw [hM]; exact List.take_left] at sq
          have hcut := fun W => run_toD (P := Tryd.prog) W 66 64 Tryd.underlying66 sizeD (some ⟨b, off, none⟩) (M + 1) cap M (by omega)
          have M0 : ¬ ((M : Int) + 1 = 0) := by omega
          have M1 : (((M : Int) + 1) == 0) = false := by simp; omega
          have lm : (M : Int) < (M : Int) + 1 := by omega
          have wM : IntKind.i64.wrap (M : Int) = (M : Int) := by rw [IntKind.wrap_i64]; have := sp.max; omega
          clear hM
          go_wp2_with fail
          refine wp_region_held_drew (S := fun W => W.rangeAt b (off + M * 32) (z.map (Value.int .u8))) (by kernel_rfl) ((World.rangeAt.keep hr dz (Vars.below (V3.drew 1)))) (fun hS => ?_)
          refine wpAnyH_take (i := 0) (v := ?_) rfl (by kernel_rfl) (by kernel_rfl) (by kernel_rfl) (fun _ _ _ h => h) (Or.inl ⟨by rfl, ?_⟩) hS ?_
          rotate_left
          · intro w _; go_simp; try with_reducible rfl
          simp only [List.getElem_toArray, List.getElem_cons_zero, List.getElem_cons_succ, Act.put, List.setIfInBounds_toArray, List.set_cons_zero, List.set_cons_succ]
          refine wpAnyH_take (i := 1) (v := ?_) rfl (by kernel_rfl) (by kernel_rfl) (by kernel_rfl) (fun _ _ _ h => h) (Or.inl ⟨by rfl, ?_⟩) hS ?_
          rotate_left
          · intro w _; go_simp; try with_reducible rfl
          simp only [List.getElem_toArray, List.getElem_cons_zero, List.getElem_cons_succ, Act.put, List.setIfInBounds_toArray, List.set_cons_zero, List.set_cons_succ]
          refine wpAnyH_take (i := 2) (v := ?_) rfl (by kernel_rfl) (by kernel_rfl) (by kernel_rfl) (fun _ _ _ h => h) (Or.inl ⟨by rfl, ?_⟩) hS ?_
          rotate_left
          · intro w _; go_simp; try with_reducible rfl
          simp only [List.getElem_toArray, List.getElem_cons_zero, List.getElem_cons_succ, Act.put, List.setIfInBounds_toArray, List.set_cons_zero, List.set_cons_succ]
          refine wpAnyH_take (i := 3) (v := ?_) rfl (by kernel_rfl) (by kernel_rfl) (by kernel_rfl) (fun _ _ _ h => h) (Or.inl ⟨by rfl, ?_⟩) hS ?_
          rotate_left
          · intro w _; go_simp; try with_reducible rfl
          simp only [List.getElem_toArray, List.getElem_cons_zero, List.getElem_cons_succ, Act.put, List.setIfInBounds_toArray, List.set_cons_zero, List.set_cons_succ]
          refine wpAnyH_take (i := 4) (v := ?_) rfl (by kernel_rfl) (by kernel_rfl) (by kernel_rfl) (fun _ _ _ h => h) (Or.inl ⟨by rfl, ?_⟩) hS ?_
          rotate_left
          · intro w _; go_simp; try with_reducible rfl
          simp only [List.getElem_toArray, List.getElem_cons_zero, List.getElem_cons_succ, Act.put, List.setIfInBounds_toArray, List.set_cons_zero, List.set_cons_succ]
          refine wpAnyH_take (i := 6) (v := ?_) rfl (by kernel_rfl) (by kernel_rfl) (by kernel_rfl) (fun _ _ _ h => h) (Or.inl ⟨by rfl, ?_⟩) hS ?_
          rotate_left
          · intro w _; go_simp; try with_reducible rfl
          simp only [List.getElem_toArray, List.getElem_cons_zero, List.getElem_cons_succ, Act.put, List.setIfInBounds_toArray, List.set_cons_zero, List.set_cons_succ]
          refine wpAnyH_take (i := 7) (v := ?_) rfl (by kernel_rfl) (by kernel_rfl) (by kernel_rfl) (fun _ _ _ h => h) (Or.inl ⟨by rfl, ?_⟩) hS ?_
          rotate_left
          · intro w _; go_simp; try with_reducible rfl
          simp only [List.getElem_toArray, List.getElem_cons_zero, List.getElem_cons_succ, Act.put, List.setIfInBounds_toArray, List.set_cons_zero, List.set_cons_succ]
          refine wpAnyH_take (i := 8) (v := ?_) rfl (by kernel_rfl) (by kernel_rfl) (by kernel_rfl) (fun _ _ _ h => h) (Or.inl ⟨by rfl, ?_⟩) hS ?_
          rotate_left
          · intro w _; go_simp; try with_reducible rfl
          simp only [List.getElem_toArray, List.getElem_cons_zero, List.getElem_cons_succ, Act.put, List.setIfInBounds_toArray, List.set_cons_zero, List.set_cons_succ]
          refine wpAnyH_take (i := 9) (v := ?_) rfl (by kernel_rfl) (by kernel_rfl) (by kernel_rfl) (fun _ _ _ h => h) (Or.inl ⟨by rfl, ?_⟩) hS ?_
          rotate_left
          · intro w _; go_simp; try with_reducible rfl
          simp only [List.getElem_toArray, List.getElem_cons_zero, List.getElem_cons_succ, Act.put, List.setIfInBounds_toArray, List.set_cons_zero, List.set_cons_succ]
          refine wpAnyH_take (i := 10) (v := ?_) rfl (by kernel_rfl) (by kernel_rfl) (by kernel_rfl) (fun _ _ _ h => h) (Or.inl ⟨by rfl, ?_⟩) hS ?_
          rotate_left
          · intro w _; go_simp; try with_reducible rfl
          simp only [List.getElem_toArray, List.getElem_cons_zero, List.getElem_cons_succ, Act.put, List.setIfInBounds_toArray, List.set_cons_zero, List.set_cons_succ]
          refine wpAnyH_take (i := 5) (v := dval z) rfl (by kernel_rfl) (by kernel_rfl) (by kernel_rfl) (fun _ _ _ h => h) (yieldsIf_load_D (by rfl) 64 _ rfl b (off + M * 32) rfl z dz _ (fun W h => h) Tryd.underlying64 rfl sizeD) hS ?_
          have V3d := V3.drew 1
          change Vars _ w (World.drew w3) _ at V3d
          obtain ⟨W, hW⟩ : ∃ W, W = World.drew w3 := ⟨_, rfl⟩
          rw [← hW] at hS V3d ⊢
          clear hW V3
          refine wpAnyH_ready (rs := [11]) (by kernel_rfl) (by simp) ?_
          refine AllReadyH.cons rfl (fun K hK => ?_) AllReadyH.nil
          rw [if_pos (by rfl)]
          simp only [List.getElem_toArray, List.getElem_cons_zero, List.getElem_cons_succ]
          refine wp_alloc_D 64 rfl zeroD ?_
          intro w4 hk4 hs4 hb4
          have V4 := Vars.add V3d hk4 hb4 dig_no
          obtain ⟨g4, hg4⟩ : ∃ g, g = W.heap.size := ⟨_, rfl⟩
          rw [← hg4] at V4 ⊢
          simp only [List.nil_append, List.cons_append] at V4
          clear hk4 hs4 hb4 hg4 V3d
          refine hK.out _ _ (World.rangeAt.keep hr dz V4.below) (fun hS => ?_)
          refine wpAnyH_ready (rs := [12]) (by kernel_rfl) (by simp) ?_
          refine AllReadyH.cons rfl (fun K hK => ?_) AllReadyH.nil
          rw [if_pos (by rfl)]
          simp only [List.getElem_toArray, List.getElem_cons_zero, List.getElem_cons_succ]
          refine wp_store_V 64 _ _ rfl g4 64 noDig z rfl rfl (Vars.at_ V4 (i := 3) rfl) dig_no dz sizeD ?_
          intro w5 hk_ hg_ hs_
          have V5 := Vars.set V4 3 (g := g4) rfl hk_ hg_ dz
          simp only [List.set_cons_zero, List.set_cons_succ] at V5
          clear hk_ hg_ hs_ V4
          refine hK.out _ _ (World.rangeAt.keep hr dz V5.below) (fun hS => ?_)
          refine wpAnyH_ready (rs := [13]) (by kernel_rfl) (by simp) ?_
          refine AllReadyH.cons rfl (fun K hK => ?_) AllReadyH.nil
          rw [if_pos (by rfl)]
          simp only [List.getElem_toArray, List.getElem_cons_zero, List.getElem_cons_succ]
          go_simp
          refine hK.out _ _ hS (fun hS => ?_)
          refine wpAnyH_done (by kernel_rfl) ?_ _
          clear hS

          have e : Hid (bothH pairD h m m false d (q ++ [z]) = if ((M : Int) == 0) = true then some (z, z) else none) := Lib.hid (by
            rw [bothH_same, HM.out]
            unfold lastB
            match q with
            | [] => rfl
            | y :: q => simp; omega)
          go_wp2_with fail
          refine wp_region_held_drew (S := fun W => Has 64 W [(g4, z)]) (by kernel_rfl) ((Has.sub (Vars.has (V5.drew 1)) (by intro p hp; simp only [List.mem_cons, List.not_mem_nil, or_false] at hp ⊢; subst hp; simp))) (fun hS => ?_)
          refine wpAnyH_take (i := 0) (v := dval z) rfl (by kernel_rfl) (by kernel_rfl) (by kernel_rfl) (fun _ _ _ h => h) (yieldsIf_load_D (by rfl) 64 _ rfl g4 (0) rfl z dz _ (fun W h => Has.rng h (i := 0) rfl) Tryd.underlying64 rfl sizeD) hS ?_
          refine wpAnyH_take (i := 1) (v := dval z) rfl (by kernel_rfl) (by kernel_rfl) (by kernel_rfl) (fun _ _ _ h => h) (yieldsIf_load_D (by rfl) 64 _ rfl g4 (0) rfl z dz _ (fun W h => Has.rng h (i := 0) rfl) Tryd.underlying64 rfl sizeD) hS ?_
          refine wpAnyH_take (i := 2) (v := ?_) rfl (by kernel_rfl) (by kernel_rfl) (by kernel_rfl) (fun _ _ _ h => h) (Or.inl ⟨by rfl, ?_⟩) hS ?_
          rotate_left
          · intro w _; go_simp; try with_reducible rfl
          simp only [List.getElem_toArray, List.getElem_cons_zero, List.getElem_cons_succ, Act.put, List.setIfInBounds_toArray, List.set_cons_zero, List.set_cons_succ]
          refine wpAnyH_take (i := 3) (v := ?_) rfl (by kernel_rfl) (by kernel_rfl) (by kernel_rfl) (fun _ _ _ h => h) (Or.inl ⟨by rfl, ?_⟩) hS ?_
          rotate_left
          · intro w _; go_simp; try with_reducible rfl
          simp only [List.getElem_toArray, List.getElem_cons_zero, List.getElem_cons_succ, Act.put, List.setIfInBounds_toArray, List.set_cons_zero, List.set_cons_succ]
          refine wpAnyH_take (i := 4) (v := ?_) rfl (by kernel_rfl) (by kernel_rfl) (by kernel_rfl) (fun _ _ _ h => h) (Or.inl ⟨by rfl, ?_⟩) hS ?_
          rotate_left
          · intro w _; go_simp; try with_reducible rfl
          simp only [List.getElem_toArray, List.getElem_cons_zero, List.getElem_cons_succ, Act.put, List.setIfInBounds_toArray, List.set_cons_zero, List.set_cons_succ]
          have Vd := V5.drew 1
          change Vars _ w (World.drew w5) _ at Vd
          obtain ⟨W, hW⟩ : ∃ W, W = World.drew w5 := ⟨_, rfl⟩
          rw [← hW] at hS Vd ⊢
          clear hW V5
          refine wpAnyH_ready (rs := [5]) (by kernel_rfl) (by simp) ?_
          refine AllReadyH.cons rfl (fun K hK => ?_) AllReadyH.nil
          rw [if_pos (by rfl)]
          simp only [List.getElem_toArray, List.getElem_cons_zero, List.getElem_cons_succ]
          refine wp_store_V 64 _ _ rfl g2 64 noDig z rfl rfl (Vars.at_ Vd (i := 1) rfl) dig_no dz sizeD ?_
          intro w7 hk_ hg_ hs_
          have V7 := Vars.set Vd 1 (g := g2) rfl hk_ hg_ dz
          simp only [List.set_cons_zero, List.set_cons_succ] at V7
          clear hk_ hg_ hs_ Vd
          refine hK.out _ _ (Has.sub V7.has (by intro p hp; simp only [List.mem_cons, List.not_mem_nil, or_false] at hp ⊢; subst hp; simp)) (fun hS => ?_)
          refine wpAnyH_ready (rs := [6]) (by kernel_rfl) (by simp) ?_
          refine AllReadyH.cons rfl (fun K hK => ?_) AllReadyH.nil
          rw [if_pos (by rfl)]
          simp only [List.getElem_toArray, List.getElem_cons_zero, List.getElem_cons_succ]
          refine wp_store_V 64 _ _ rfl g3 64 noDig z rfl rfl (Vars.at_ V7 (i := 2) rfl) dig_no dz sizeD ?_
          intro w8 hk_ hg_ hs_
          have V8 := Vars.set V7 2 (g := g3) rfl hk_ hg_ dz
          simp only [List.set_cons_zero, List.set_cons_succ] at V8
          clear hk_ hg_ hs_ V7
          refine hK.out _ _ (Has.sub V8.has (by intro p hp; simp only [List.mem_cons, List.not_mem_nil, or_false] at hp ⊢; subst hp; simp)) (fun hS => ?_)
          refine wpAnyH_ready (rs := [7]) (by kernel_rfl) (by simp) ?_
          refine AllReadyH.cons rfl (fun K hK => ?_) AllReadyH.nil
          rw [if_pos (by rfl)]
          simp only [List.getElem_toArray, List.getElem_cons_zero, List.getElem_cons_succ]
          go_simp
          refine hK.out _ _ hS (fun hS => ?_)
          refine wpAnyH_done (by kernel_rfl) ?_ _
          clear hS
          go_wp2_with fail
          exact bodyPost_ret (v := .tuple #[dval z, dval z, .bool ((M : Int) == 0)]) (results_dig2_tmp (p := 10) (q := 11) (u := 12) rfl rfl rfl (Vars.at_ V8 (i := 1) rfl) (Vars.at_ V8 (i := 2) rfl) dz dz Tryd.underlying64 rfl sizeD) rfl (BothPost.of V8 dz dz e.out)
    · have hne : ((m : Int) == (n : Int)) = false := by simp; omega
      have hni : ¬ ((m : Int) = (n : Int)) := by omega
      rcases snoc_cases p with rfl | ⟨q, z, rfl⟩
      · obtain rfl : L = 0 := HL.out
        have e : Hid (bothH pairD h n m wh d [] = none) := Lib.hid (bothH_nil hsame h hh hmn h1)
        go_wp2_with (first | (refine wpList_build0 rfl 64 rfl bltD ?_) | (refine wpList_store_V rfl 64 _ _ rfl g2 64 noDig noDig rfl rfl (Vars.at_ V3 (i := 1) rfl) (Vars.dig V3 (i := 1) rfl) dig_no sizeD ?_))
        intro w5 hk_ hg_ hs_
        have V5 := Vars.set V3 1 (g := g2) rfl hk_ hg_ dig_no
        simp only [List.set_cons_zero, List.set_cons_succ] at V5
        clear hk_ hg_ hs_ V3
        go_wp2_with (refine wpList_store_V rfl 64 _ _ rfl g3 64 noDig noDig rfl rfl (Vars.at_ V5 (i := 2) rfl) (Vars.dig V5 (i := 2) rfl) dig_no sizeD ?_)
        intro w6 hk_ hg_ hs_
        have V6 := Vars.set V5 2 (g := g3) rfl hk_ hg_ dig_no
        simp only [List.set_cons_zero, List.set_cons_succ] at V6
        clear hk_ hg_ hs_ V5
        go_wp2_with fail
        exact bodyPost_ret (v := .tuple #[dval noDig, dval noDig, .bool false]) (results_dig2_tmp (p := 10) (q := 11) (u := 12) rfl rfl rfl (Vars.at_ V6 (i := 1) rfl) (Vars.at_ V6 (i := 2) rfl) dig_no dig_no Tryd.underlying64 rfl sizeD) rfl (BothPost.of V6 dig_no dig_no (by rw [e.out]; rfl))
      · obtain ⟨M, hM⟩ : ∃ M, M = q.length := ⟨_, rfl⟩
        have HM := Lib.hid hM
        obtain rfl : L = M + 1 := by rw [HL.out, hM]; simp
        have dz : Dig z := sp.dig z (by simp)
        obtain ⟨b, off, rfl, hr⟩ := sp.last
        rw [← hM] at hr
        have ml : M + 1 ≤ cap := by have := sp.le; simp at this; omega
        have sq := sp.take M
        rw [show (q ++ [z]).take M = q by rw [hM]; exact List.take_left] at sq
        have hcut := fun W => run_toD (P := Tryd.prog) W 66 64 Tryd.underlying66 sizeD (some ⟨b, off, none⟩) (M + 1) cap M (by omega)
        have M0 : ¬ ((M : Int) + 1 = 0) := by omega
        have M1 : (((M : Int) + 1) == 0) = false := by simp; omega
        have lm : (M : Int) < (M : Int) + 1 := by omega
        have wM : IntKind.i64.wrap (M : Int) = (M : Int) := by rw [IntKind.wrap_i64]; have := sp.max; omega
        clear hM
        go_wp2_with fail
        refine wp_region_held_drew (S := fun W => W.rangeAt b (off + M * 32) (z.map (Value.int .u8))) (by kernel_rfl) ((World.rangeAt.keep hr dz (Vars.below (V3.drew 1)))) (fun hS => ?_)
        refine wpAnyH_take (i := 0) (v := ?_) rfl (by kernel_rfl) (by kernel_rfl) (by kernel_rfl) (fun _ _ _ h => h) (Or.inl ⟨by rfl, ?_⟩) hS ?_
        rotate_left
        · intro w _; go_simp; try with_reducible rfl
        simp only [List.getElem_toArray, List.getElem_cons_zero, List.getElem_cons_succ, Act.put, List.setIfInBounds_toArray, List.set_cons_zero, List.set_cons_succ]
        refine wpAnyH_take (i := 1) (v := ?_) rfl (by kernel_rfl) (by kernel_rfl) (by kernel_rfl) (fun _ _ _ h => h) (Or.inl ⟨by rfl, ?_⟩) hS ?_
        rotate_left
        · intro w _; go_simp; try with_reducible rfl
        simp only [List.getElem_toArray, List.getElem_cons_zero, List.getElem_cons_succ, Act.put, List.setIfInBounds_toArray, List.set_cons_zero, List.set_cons_succ]
        refine wpAnyH_take (i := 2) (v := ?_) rfl (by kernel_rfl) (by kernel_rfl) (by kernel_rfl) (fun _ _ _ h => h) (Or.inl ⟨by rfl, ?_⟩) hS ?_
        rotate_left
        · intro w _; go_simp; try with_reducible rfl
        simp only [List.getElem_toArray, List.getElem_cons_zero, List.getElem_cons_succ, Act.put, List.setIfInBounds_toArray, List.set_cons_zero, List.set_cons_succ]
        refine wpAnyH_take (i := 3) (v := ?_) rfl (by kernel_rfl) (by kernel_rfl) (by kernel_rfl) (fun _ _ _ h => h) (Or.inl ⟨by rfl, ?_⟩) hS ?_
        rotate_left
        · intro w _; go_simp; try with_reducible rfl
        simp only [List.getElem_toArray, List.getElem_cons_zero, List.getElem_cons_succ, Act.put, List.setIfInBounds_toArray, List.set_cons_zero, List.set_cons_succ]
        refine wpAnyH_take (i := 4) (v := ?_) rfl (by kernel_rfl) (by kernel_rfl) (by kernel_rfl) (fun _ _ _ h => h) (Or.inl ⟨by rfl, ?_⟩) hS ?_
        rotate_left
        · intro w _; go_simp; try with_reducible rfl
        simp only [List.getElem_toArray, List.getElem_cons_zero, List.getElem_cons_succ, Act.put, List.setIfInBounds_toArray, List.set_cons_zero, List.set_cons_succ]
        refine wpAnyH_take (i := 6) (v := ?_) rfl (by kernel_rfl) (by kernel_rfl) (by kernel_rfl) (fun _ _ _ h => h) (Or.inl ⟨by rfl, ?_⟩) hS ?_
        rotate_left
        · intro w _; go_simp; try with_reducible rfl
        simp only [List.getElem_toArray, List.getElem_cons_zero, List.getElem_cons_succ, Act.put, List.setIfInBounds_toArray, List.set_cons_zero, List.set_cons_succ]
        refine wpAnyH_take (i := 7) (v := ?_) rfl (by kernel_rfl) (by kernel_rfl) (by kernel_rfl) (fun _ _ _ h => h) (Or.inl ⟨by rfl, ?_⟩) hS ?_
        rotate_left
        · intro w _; go_simp; try with_reducible rfl
        simp only [List.getElem_toArray, List.getElem_cons_zero, List.getElem_cons_succ, Act.put, List.setIfInBounds_toArray, List.set_cons_zero, List.set_cons_succ]
        refine wpAnyH_take (i := 8) (v := ?_) rfl (by kernel_rfl) (by kernel_rfl) (by kernel_rfl) (fun _ _ _ h => h) (Or.inl ⟨by rfl, ?_⟩) hS ?_
        rotate_left
        · intro w _; go_simp; try with_reducible rfl
        simp only [List.getElem_toArray, List.getElem_cons_zero, List.getElem_cons_succ, Act.put, List.setIfInBounds_toArray, List.set_cons_zero, List.set_cons_succ]
        refine wpAnyH_take (i := 9) (v := ?_) rfl (by kernel_rfl) (by kernel_rfl) (by kernel_rfl) (fun _ _ _ h => h) (Or.inl ⟨by rfl, ?_⟩) hS ?_
        rotate_left
        · intro w _; go_simp; try with_reducible rfl
        simp only [List.getElem_toArray, List.getElem_cons_zero, List.getElem_cons_succ, Act.put, List.setIfInBounds_toArray, List.set_cons_zero, List.set_cons_succ]
        refine wpAnyH_take (i := 10) (v := ?_) rfl (by kernel_rfl) (by kernel_rfl) (by kernel_rfl) (fun _ _ _ h => h) (Or.inl ⟨by rfl, ?_⟩) hS ?_
        rotate_left
        · intro w _; go_simp; try with_reducible rfl
        simp only [List.getElem_toArray, List.getElem_cons_zero, List.getElem_cons_succ, Act.put, List.setIfInBounds_toArray, List.set_cons_zero, List.set_cons_succ]
        refine wpAnyH_take (i := 5) (v := dval z) rfl (by kernel_rfl) (by kernel_rfl) (by kernel_rfl) (fun _ _ _ h => h) (yieldsIf_load_D (by rfl) 64 _ rfl b (off + M * 32) rfl z dz _ (fun W h => h) Tryd.underlying64 rfl sizeD) hS ?_
        have V3d := V3.drew 1
        change Vars _ w (World.drew w3) _ at V3d
        obtain ⟨W, hW⟩ : ∃ W, W = World.drew w3 := ⟨_, rfl⟩
        rw [← hW] at hS V3d ⊢
        clear hW V3
        refine wpAnyH_ready (rs := [11]) (by kernel_rfl) (by simp) ?_
        refine AllReadyH.cons rfl (fun K hK => ?_) AllReadyH.nil
        rw [if_pos (by rfl)]
        simp only [List.getElem_toArray, List.getElem_cons_zero, List.getElem_cons_succ]
        refine wp_alloc_D 64 rfl zeroD ?_
        intro w4 hk4 hs4 hb4
        have V4 := Vars.add V3d hk4 hb4 dig_no
        obtain ⟨g4, hg4⟩ : ∃ g, g = W.heap.size := ⟨_, rfl⟩
        rw [← hg4] at V4 ⊢
        simp only [List.nil_append, List.cons_append] at V4
        clear hk4 hs4 hb4 hg4 V3d
        refine hK.out _ _ (World.rangeAt.keep hr dz V4.below) (fun hS => ?_)
        refine wpAnyH_ready (rs := [12]) (by kernel_rfl) (by simp) ?_
        refine AllReadyH.cons rfl (fun K hK => ?_) AllReadyH.nil
        rw [if_pos (by rfl)]
        simp only [List.getElem_toArray, List.getElem_cons_zero, List.getElem_cons_succ]
        refine wp_store_V 64 _ _ rfl g4 64 noDig z rfl rfl (Vars.at_ V4 (i := 3) rfl) dig_no dz sizeD ?_
        intro w5 hk_ hg_ hs_
        have V5 := Vars.set V4 3 (g := g4) rfl hk_ hg_ dz
        simp only [List.set_cons_zero, List.set_cons_succ] at V5
        clear hk_ hg_ hs_ V4
        refine hK.out _ _ (World.rangeAt.keep hr dz V5.below) (fun hS => ?_)
        refine wpAnyH_ready (rs := [13]) (by kernel_rfl) (by simp) ?_
        refine AllReadyH.cons rfl (fun K hK => ?_) AllReadyH.nil
        rw [if_pos (by rfl)]
        simp only [List.getElem_toArray, List.getElem_cons_zero, List.getElem_cons_succ]
        go_simp
        refine hK.out _ _ hS (fun hS => ?_)
        refine wpAnyH_done (by kernel_rfl) ?_ _
        clear hS

        obtain ⟨k, j, hk, hkn, hnk, hs⟩ := split_any n (by omega) hm
        have HK := Lib.hid hk
        clear hk
        have nn : (n : Int) ≤ 9223372036854775807 := by omega
        go_wp2_with fail
        refine (hs _).mono ?_; rintro e w' ⟨rfl, hw'⟩; have hw2 := hw'.symm; subst hw2; clear hw'
        have k0 : 0 < k := by rw [HK.out]; exact Nat.pow_pos (by omega)
        by_cases cmk : m ≤ k
        · have hd : decide ((m : Int) ≤ (k : Int)) = true := decide_eq_true (by omega)
          have hi2 : (m : Int) ≤ (k : Int) := by omega
          have cl := IH k (by omega) j m wh d (some ⟨b, off, none⟩) cap q w5 h1 cmk (Nat.le_of_eq HK.out) (by omega) dd (sq.below V5.below) (ht.below V5.below)

          rw [← HM.out] at cl
          go_wp2_with (refine wpList_load_V rfl 64 _ rfl g1 64 d rfl (Vars.at_ V5 (i := 0) rfl) (Vars.dig V5 (i := 0) rfl) _ Tryd.underlying64 rfl sizeD ?_)
          refine cl.mono ?_; rintro e w6 ⟨x, y, ok, rfl, dx, dy, er, hb6⟩
          have ER := Lib.hid er
          have V6 := V5.keep hb6
          clear cl er hb6 V5
          go_wp2_with (with_reducible refine wpList_alloc_rw rfl 64 rfl (noDig.map (Value.int .u8)) _ zeroD ?_)
          intro w7 hk_ hs_ hb_
          have V7 := Vars.add V6 hk_ hb_ dig_no
          obtain ⟨g5, hg_⟩ : ∃ g, g = w6.heap.size := ⟨_, rfl⟩
          rw [← hg_] at V7 ⊢
          simp only [List.nil_append, List.cons_append] at V7
          clear hk_ hs_ hb_ hg_
          go_wp2_with (with_reducible refine wpList_alloc_rw rfl 64 rfl (noDig.map (Value.int .u8)) _ zeroD ?_)
          intro w8 hk_ hs_ hb_
          have V8 := Vars.add V7 hk_ hb_ dig_no
          obtain ⟨g6, hg_⟩ : ∃ g, g = w7.heap.size := ⟨_, rfl⟩
          rw [← hg_] at V8 ⊢
          simp only [List.nil_append, List.cons_append] at V8
          clear hk_ hs_ hb_ hg_
          clear V6 V7
          go_wp2_with (refine wpList_store_V rfl 64 _ _ rfl g5 64 noDig x rfl rfl (Vars.at_ V8 (i := 4) rfl) (Vars.dig V8 (i := 4) rfl) dx sizeD ?_)
          intro w9 hk_ hg_ hs_
          have V9 := Vars.set V8 4 (g := g5) rfl hk_ hg_ dx
          simp only [List.set_cons_zero, List.set_cons_succ] at V9
          clear hk_ hg_ hs_ V8
          go_wp2_with (refine wpList_store_V rfl 64 _ _ rfl g6 64 noDig y rfl rfl (Vars.at_ V9 (i := 5) rfl) (Vars.dig V9 (i := 5) rfl) dy sizeD ?_)
          intro w10 hk_ hg_ hs_
          have V10 := Vars.set V9 5 (g := g6) rfl hk_ hg_ dy
          simp only [List.set_cons_zero, List.set_cons_succ] at V10
          clear hk_ hg_ hs_ V9
          go_wp2_with fail
          refine wp_region_held_drew (S := fun W => Has 64 W [(g4, z), (g5, x), (g6, y)]) (by kernel_rfl) ((Has.sub (V10.drew 1).has (by intro p hp; simp only [List.mem_cons, List.not_mem_nil, or_false] at hp ⊢; rcases hp with rfl | rfl | rfl <;> simp))) (fun hS => ?_)
          refine wpAnyH_take (i := 0) (v := dval x) rfl (by kernel_rfl) (by kernel_rfl) (by kernel_rfl) (fun _ _ _ h => h) (yieldsIf_load_D (by rfl) 64 _ rfl g5 (0) rfl x dx _ (fun W h => Has.rng h (i := 1) rfl) Tryd.underlying64 rfl sizeD) hS ?_
          refine wpAnyH_take (i := 1) (v := dval y) rfl (by kernel_rfl) (by kernel_rfl) (by kernel_rfl) (fun _ _ _ h => h) (yieldsIf_load_D (by rfl) 64 _ rfl g6 (0) rfl y dy _ (fun W h => Has.rng h (i := 2) rfl) Tryd.underlying64 rfl sizeD) hS ?_
          refine wpAnyH_take (i := 2) (v := dval z) rfl (by kernel_rfl) (by kernel_rfl) (by kernel_rfl) (fun _ _ _ h => h) (yieldsIf_load_D (by rfl) 64 _ rfl g4 (0) rfl z dz _ (fun W h => Has.rng h (i := 0) rfl) Tryd.underlying64 rfl sizeD) hS ?_
          refine wpAnyH_take (i := 4) (v := ?_) rfl (by kernel_rfl) (by kernel_rfl) (by kernel_rfl) (fun _ _ _ h => h) (Or.inl ⟨by rfl, ?_⟩) hS ?_
          rotate_left
          · intro w _; go_simp; try with_reducible rfl
          simp only [List.getElem_toArray, List.getElem_cons_zero, List.getElem_cons_succ, Act.put, List.setIfInBounds_toArray, List.set_cons_zero, List.set_cons_succ]
          have V10d := V10.drew 1
          change Vars _ w (World.drew w10) _ at V10d
          obtain ⟨W, hW⟩ : ∃ W, W = World.drew w10 := ⟨_, rfl⟩
          rw [← hW] at hS V10d ⊢
          clear hW V10
          refine wpAnyH_ready (rs := [3]) (by kernel_rfl) (by simp) ?_
          refine AllReadyH.cons rfl (fun K hK => ?_) AllReadyH.nil
          rw [if_pos (by rfl)]
          simp only [List.getElem_toArray, List.getElem_cons_zero, List.getElem_cons_succ]
          go_simp
          refine (pair_c y z W dy dz (ht.below V10d.below)).mono ?_; rintro e w11 ⟨rfl, hb_⟩
          dsimp only
          have V11 := V10d.keep hb_
          refine hK.out _ _ (Has.keep hS hb_) (fun hS => ?_)
          clear hb_ V10d
          refine wpAnyH_ready (rs := [5]) (by kernel_rfl) (by simp) ?_
          refine AllReadyH.cons rfl (fun K hK => ?_) AllReadyH.nil
          rw [if_pos (by rfl)]
          simp only [List.getElem_toArray, List.getElem_cons_zero, List.getElem_cons_succ]
          refine wp_store_V 64 _ _ rfl g2 64 noDig x rfl rfl (Vars.at_ V11 (i := 1) rfl) dig_no dx sizeD ?_
          intro w12 hk_ hg_ hs_
          have V12 := Vars.set V11 1 (g := g2) rfl hk_ hg_ dx
          simp only [List.set_cons_zero, List.set_cons_succ] at V12
          clear hk_ hg_ hs_ V11
          refine hK.out _ _ (Has.sub V12.has (by intro p hp; simp only [List.mem_cons, List.not_mem_nil, or_false] at hp ⊢; rcases hp with rfl | rfl | rfl <;> simp)) (fun hS => ?_)
          refine wpAnyH_ready (rs := [6]) (by kernel_rfl) (by simp) ?_
          refine AllReadyH.cons rfl (fun K hK => ?_) AllReadyH.nil
          rw [if_pos (by rfl)]
          simp only [List.getElem_toArray, List.getElem_cons_zero, List.getElem_cons_succ]
          refine wp_store_V 64 _ _ rfl g3 64 noDig (pairD y z) rfl rfl (Vars.at_ V12 (i := 2) rfl) dig_no (shaD_dig _) sizeD ?_
          intro w13 hk_ hg_ hs_
          have V13 := Vars.set V12 2 (g := g3) rfl hk_ hg_ (shaD_dig _)
          simp only [List.set_cons_zero, List.set_cons_succ] at V13
          clear hk_ hg_ hs_ V12
          refine hK.out _ _ (Has.sub V13.has (by intro p hp; simp only [List.mem_cons, List.not_mem_nil, or_false] at hp ⊢; rcases hp with rfl | rfl | rfl <;> simp)) (fun hS => ?_)
          refine wpAnyH_ready (rs := [7]) (by kernel_rfl) (by simp) ?_
          refine AllReadyH.cons rfl (fun K hK => ?_) AllReadyH.nil
          rw [if_pos (by rfl)]
          simp only [List.getElem_toArray, List.getElem_cons_zero, List.getElem_cons_succ]
          go_simp
          refine hK.out _ _ hS (fun hS => ?_)
          refine wpAnyH_done (by kernel_rfl) ?_ _
          clear hS
          go_wp2_with fail
          exact bodyPost_ret (v := .tuple #[dval x, dval (pairD y z), .bool ok]) (results_dig2_tmp (p := 10) (q := 11) (u := 12) rfl rfl rfl (Vars.at_ V13 (i := 1) rfl) (Vars.at_ V13 (i := 2) rfl) dx (shaD_dig _) Tryd.underlying64 rfl sizeD) rfl (BothPost.of V13 dx (shaD_dig _) (by rw [bothH_any hh (h' := j + 1) hnk, bothH_left (by rw [← HK.out]; omega) (by rw [← HK.out]; omega), ← HK.out, ER.out]; cases ok <;> rfl))
        · have hd : decide ((m : Int) ≤ (k : Int)) = false := decide_eq_false (by omega)
          have hi2 : ¬ (m : Int) ≤ (k : Int) := by omega
          have kk : (k : Int) < (n : Int) := by omega
          have mn : (m : Int) ≤ (n : Int) := by omega
          have cl := IH (n - k) (by omega) j (m - k) false d (some ⟨b, off, none⟩) cap q w5 (by omega) (by omega) (by have := HK.out; have := pow2_succ j; omega) (by omega) dd (sq.below V5.below) (ht.below V5.below)
          rw [show ((n - k : Nat) : Int) = (n : Int) - (k : Int) by omega, show ((m - k : Nat) : Int) = (m : Int) - (k : Int) by omega] at cl

          rw [← HM.out] at cl
          go_wp2_with (refine wpList_load_V rfl 64 _ rfl g1 64 d rfl (Vars.at_ V5 (i := 0) rfl) (Vars.dig V5 (i := 0) rfl) _ Tryd.underlying64 rfl sizeD ?_)
          refine cl.mono ?_; rintro e w6 ⟨x, y, ok, rfl, dx, dy, er, hb6⟩
          have ER := Lib.hid er
          have V6 := V5.keep hb6
          clear cl er hb6 V5
          go_wp2_with (with_reducible refine wpList_alloc_rw rfl 64 rfl (noDig.map (Value.int .u8)) _ zeroD ?_)
          intro w7 hk_ hs_ hb_
          have V7 := Vars.add V6 hk_ hb_ dig_no
          obtain ⟨g5, hg_⟩ : ∃ g, g = w6.heap.size := ⟨_, rfl⟩
          rw [← hg_] at V7 ⊢
          simp only [List.nil_append, List.cons_append] at V7
          clear hk_ hs_ hb_ hg_
          go_wp2_with (with_reducible refine wpList_alloc_rw rfl 64 rfl (noDig.map (Value.int .u8)) _ zeroD ?_)
          intro w8 hk_ hs_ hb_
          have V8 := Vars.add V7 hk_ hb_ dig_no
          obtain ⟨g6, hg_⟩ : ∃ g, g = w7.heap.size := ⟨_, rfl⟩
          rw [← hg_] at V8 ⊢
          simp only [List.nil_append, List.cons_append] at V8
          clear hk_ hs_ hb_ hg_
          clear V6 V7
          go_wp2_with (refine wpList_store_V rfl 64 _ _ rfl g5 64 noDig x rfl rfl (Vars.at_ V8 (i := 4) rfl) (Vars.dig V8 (i := 4) rfl) dx sizeD ?_)
          intro w9 hk_ hg_ hs_
          have V9 := Vars.set V8 4 (g := g5) rfl hk_ hg_ dx
          simp only [List.set_cons_zero, List.set_cons_succ] at V9
          clear hk_ hg_ hs_ V8
          go_wp2_with (refine wpList_store_V rfl 64 _ _ rfl g6 64 noDig y rfl rfl (Vars.at_ V9 (i := 5) rfl) (Vars.dig V9 (i := 5) rfl) dy sizeD ?_)
          intro w10 hk_ hg_ hs_
          have V10 := Vars.set V9 5 (g := g6) rfl hk_ hg_ dy
          simp only [List.set_cons_zero, List.set_cons_succ] at V10
          clear hk_ hg_ hs_ V9
          go_wp2_with fail
          refine wp_region_held_drew (S := fun W => Has 64 W [(g4, z), (g5, x), (g6, y)]) (by kernel_rfl) ((Has.sub (V10.drew 1).has (by intro p hp; simp only [List.mem_cons, List.not_mem_nil, or_false] at hp ⊢; rcases hp with rfl | rfl | rfl <;> simp))) (fun hS => ?_)
          refine wpAnyH_take (i := 0) (v := dval z) rfl (by kernel_rfl) (by kernel_rfl) (by kernel_rfl) (fun _ _ _ h => h) (yieldsIf_load_D (by rfl) 64 _ rfl g4 (0) rfl z dz _ (fun W h => Has.rng h (i := 0) rfl) Tryd.underlying64 rfl sizeD) hS ?_
          refine wpAnyH_take (i := 1) (v := dval x) rfl (by kernel_rfl) (by kernel_rfl) (by kernel_rfl) (fun _ _ _ h => h) (yieldsIf_load_D (by rfl) 64 _ rfl g5 (0) rfl x dx _ (fun W h => Has.rng h (i := 1) rfl) Tryd.underlying64 rfl sizeD) hS ?_
          refine wpAnyH_take (i := 3) (v := dval z) rfl (by kernel_rfl) (by kernel_rfl) (by kernel_rfl) (fun _ _ _ h => h) (yieldsIf_load_D (by rfl) 64 _ rfl g4 (0) rfl z dz _ (fun W h => Has.rng h (i := 0) rfl) Tryd.underlying64 rfl sizeD) hS ?_
          refine wpAnyH_take (i := 4) (v := dval y) rfl (by kernel_rfl) (by kernel_rfl) (by kernel_rfl) (fun _ _ _ h => h) (yieldsIf_load_D (by rfl) 64 _ rfl g6 (0) rfl y dy _ (fun W h => Has.rng h (i := 2) rfl) Tryd.underlying64 rfl sizeD) hS ?_
          refine wpAnyH_take (i := 6) (v := ?_) rfl (by kernel_rfl) (by kernel_rfl) (by kernel_rfl) (fun _ _ _ h => h) (Or.inl ⟨by rfl, ?_⟩) hS ?_
          rotate_left
          · intro w _; go_simp; try with_reducible rfl
          simp only [List.getElem_toArray, List.getElem_cons_zero, List.getElem_cons_succ, Act.put, List.setIfInBounds_toArray, List.set_cons_zero, List.set_cons_succ]
          have V10d := V10.drew 1
          change Vars _ w (World.drew w10) _ at V10d
          obtain ⟨W, hW⟩ : ∃ W, W = World.drew w10 := ⟨_, rfl⟩
          rw [← hW] at hS V10d ⊢
          clear hW V10
          refine wpAnyH_ready (rs := [2]) (by kernel_rfl) (by simp) ?_
          refine AllReadyH.cons rfl (fun K hK => ?_) AllReadyH.nil
          rw [if_pos (by rfl)]
          simp only [List.getElem_toArray, List.getElem_cons_zero, List.getElem_cons_succ]
          go_simp
          refine (pair_c z x W dz dx (ht.below V10d.below)).mono ?_; rintro e w11 ⟨rfl, hb_⟩
          dsimp only
          have V11 := V10d.keep hb_
          refine hK.out _ _ (Has.keep hS hb_) (fun hS => ?_)
          clear hb_ V10d
          refine wpAnyH_ready (rs := [5]) (by kernel_rfl) (by simp) ?_
          refine AllReadyH.cons rfl (fun K hK => ?_) AllReadyH.nil
          rw [if_pos (by rfl)]
          simp only [List.getElem_toArray, List.getElem_cons_zero, List.getElem_cons_succ]
          go_simp
          refine (pair_c z y w11 dz dy (ht.below V11.below)).mono ?_; rintro e w12 ⟨rfl, hb_⟩
          dsimp only
          have V12 := V11.keep hb_
          refine hK.out _ _ (Has.keep hS hb_) (fun hS => ?_)
          clear hb_ V11
          refine wpAnyH_ready (rs := [7]) (by kernel_rfl) (by simp) ?_
          refine AllReadyH.cons rfl (fun K hK => ?_) AllReadyH.nil
          rw [if_pos (by rfl)]
          simp only [List.getElem_toArray, List.getElem_cons_zero, List.getElem_cons_succ]
          refine wp_store_V 64 _ _ rfl g2 64 noDig (pairD z x) rfl rfl (Vars.at_ V12 (i := 1) rfl) dig_no (shaD_dig _) sizeD ?_
          intro w13 hk_ hg_ hs_
          have V13 := Vars.set V12 1 (g := g2) rfl hk_ hg_ (shaD_dig _)
          simp only [List.set_cons_zero, List.set_cons_succ] at V13
          clear hk_ hg_ hs_ V12
          refine hK.out _ _ (Has.sub V13.has (by intro p hp; simp only [List.mem_cons, List.not_mem_nil, or_false] at hp ⊢; rcases hp with rfl | rfl | rfl <;> simp)) (fun hS => ?_)
          refine wpAnyH_ready (rs := [8]) (by kernel_rfl) (by simp) ?_
          refine AllReadyH.cons rfl (fun K hK => ?_) AllReadyH.nil
          rw [if_pos (by rfl)]
          simp only [List.getElem_toArray, List.getElem_cons_zero, List.getElem_cons_succ]
          refine wp_store_V 64 _ _ rfl g3 64 noDig (pairD z y) rfl rfl (Vars.at_ V13 (i := 2) rfl) dig_no (shaD_dig _) sizeD ?_
          intro w14 hk_ hg_ hs_
          have V14 := Vars.set V13 2 (g := g3) rfl hk_ hg_ (shaD_dig _)
          simp only [List.set_cons_zero, List.set_cons_succ] at V14
          clear hk_ hg_ hs_ V13
          refine hK.out _ _ (Has.sub V14.has (by intro p hp; simp only [List.mem_cons, List.not_mem_nil, or_false] at hp ⊢; rcases hp with rfl | rfl | rfl <;> simp)) (fun hS => ?_)
          refine wpAnyH_ready (rs := [9]) (by kernel_rfl) (by simp) ?_
          refine AllReadyH.cons rfl (fun K hK => ?_) AllReadyH.nil
          rw [if_pos (by rfl)]
          simp only [List.getElem_toArray, List.getElem_cons_zero, List.getElem_cons_succ]
          go_simp
          refine hK.out _ _ hS (fun hS => ?_)
          refine wpAnyH_done (by kernel_rfl) ?_ _
          clear hS
          go_wp2_with fail
          exact bodyPost_ret (v := .tuple #[dval (pairD z x), dval (pairD z y), .bool ok]) (results_dig2_tmp (p := 10) (q := 11) (u := 12) rfl rfl rfl (Vars.at_ V14 (i := 1) rfl) (Vars.at_ V14 (i := 2) rfl) (shaD_dig _) (shaD_dig _) Tryd.underlying64 rfl sizeD) rfl (BothPost.of V14 (shaD_dig _) (shaD_dig _) (by rw [bothH_any hh (h' := j + 1) hnk, bothH_right (by rw [← HK.out]; omega) hsame (by rw [← HK.out]; omega), ← HK.out, ER.out]; cases ok <;> rfl))
end Go.Proofs.YtmbifokiebjmmaaDoor
