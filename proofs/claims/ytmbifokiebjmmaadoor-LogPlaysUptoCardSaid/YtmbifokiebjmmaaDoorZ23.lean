import Derived.Test.YtmbifokiebjmmaaDoorZ22
import Derived.Test.YtmbifokiebjmmaaDoorZ19
import Derived.Test.YtmbifokiebjmmaaDoorZ17
import Derived.Test.YtmbifokiebjmmaaDoorZ1
import Derived.Test.YtmbifokiebjmmaaDoorZ20
/- signetref36: Leaves, up, Root, Proof, Growth by their contracts. (Printed by gen_logi.py.) -/
set_option linter.unusedVariables false
set_option linter.unusedSimpArgs false
namespace Go.Proofs.YtmbifokiebjmmaaDoor
open Go.RowKit Go.Sg
theorem part_dig : ∀ (h : Nat) (l : List (List Int)) (m : Nat) (w : Bool), (∀ d ∈ l, Dig d) → ∀ d ∈ partH pairD (shaD []) h l m w, Dig d
  | 0, l, m, w, hl, d, hd => by
    rw [partH] at hd
    split at hd
    · simp at hd
    · simp at hd; rw [hd]; exact root_dig _ _ _ hl
  | h + 1, l, m, w, hl, d, hd => by
    rw [partH] at hd
    split at hd
    · split at hd
      · simp at hd
      · simp at hd; rw [hd]; exact root_dig _ _ _ hl
    · split at hd
      · exact part_dig h l m w hl d hd
      · split at hd
        · rcases List.mem_append.1 hd with hd | hd
          · exact part_dig h _ m w (fun x hx => hl x (List.mem_of_mem_take hx)) d hd
          · simp at hd; rw [hd]; exact root_dig _ _ _ (fun x hx => hl x (List.mem_of_mem_drop hx))
        · rcases List.mem_append.1 hd with hd | hd
          · exact part_dig h _ _ _ (fun x hx => hl x (List.mem_of_mem_drop hx)) d hd
          · simp at hd; rw [hd]; exact root_dig _ _ _ (fun x hx => hl x (List.mem_of_mem_take hx))
def StrsPost (ss : List (List Int)) (w : World) (e : Ending) (w' : World) : Prop := ∃ v, e = .returned v ∧ NewV w.heap.size 9 w' v (ss.map str) ∧ Below w.heap.size w w'
def StrsOrPost (r : Option (List (List Int))) (w : World) (e : Ending) (w' : World) : Prop := ∃ v, e = .returned (.tuple #[v, .int .i64 (if r = none then 250 else 0)]) ∧ NewV w.heap.size 9 w' v ((r.getD []).map str) ∧ Below w.heap.size w w'
theorem cutS_to (W : World) (a : Option Addr) (n cap k : Nat) (hk : k ≤ cap) : (Instr.sliceAt 22 (.slice a n cap) none (some (.int .i64 (k : Int))) none).run Tryd.prog W = .ok (.slice a k cap) W :=
  run_to W 22 9 Tryd.underlying22 (by kernel_rfl) a n cap k hk (k : Int) rfl
theorem cutS_from (W : World) (a : Option Addr) (n cap k : Nat) (hk : k ≤ n) (hn : n ≤ cap) : (Instr.sliceAt 22 (.slice a n cap) (some (.int .i64 (k : Int))) none none).run Tryd.prog W = .ok (.slice (if cap - k = 0 then a else a.map (·.add k)) (n - k) (cap - k)) W :=
  run_from W 22 9 Tryd.underlying22 (by kernel_rfl) a n cap k hk hn (k : Int) rfl

set_option maxHeartbeats 16000000 in
set_option maxRecDepth 20000 in
theorem rLeaves_c (A : Option Addr) (cap : Nat) (ss : List (List Int)) (w : World) (hs : Ss w A cap ss) (hl : ∀ s ∈ ss, s.length ≤ 4294967296) (hn : ss.length ≤ 4294967296) (ht : RefTabs w) :
    Calls Tryd.prog 14 #[.slice A ss.length cap] w (StrsPost (ss.map leafD) w) := by
  obtain ⟨n, hn'⟩ : ∃ n, n = ss.length := ⟨_, rfl⟩
  have HN := Lib.hid hn'
  rw [← hn'] at hn ⊢
  clear hn'
  go_enter Tryd.func14, Tryd.ntmps14
  go_wp2_with fail
  go_loopw [3, 4] (fun v t wr => ∃ k : Nat, k ≤ n ∧ t = .int .i64 (k : Int) ∧ NewV w.heap.size 9 wr v (((ss.take k).map leafD).map str) ∧ Below w.heap.size w wr) (fun _ t _ => n - (intOf t).toNat)
  case atStart => exact ⟨0, by omega, rfl, .nil _ _ _, .refl _ _⟩
  case round =>
    obtain ⟨k, hk, rfl, hv, hb⟩ := hrel
    by_cases hlt : k < n
    · have hd : decide ((k : Int) < (n : Int)) = true := decide_eq_true (by omega)
      have hki : (k : Int) < (n : Int) := by omega
      obtain ⟨b, off, rfl, hc⟩ := (hs.below hb).at_ (by have := HN.out; omega)
      have ck := hc k (by have := HN.out; omega)
      obtain ⟨s, hs'⟩ : ∃ s, s = ss[k]'(by have := HN.out; omega) := ⟨_, rfl⟩
      have hmem : s ∈ ss := by rw [hs']; exact List.getElem_mem _
      rw [← hs'] at ck
      have c1 := rLeaf_c s wr (hs.u8 s hmem) (by have := hl s hmem; omega) (ht.below hb)
      have et : Hid (((ss.take (k + 1)).map leafD).map str = ((ss.take k).map leafD).map str ++ [str (leafD s)]) := Lib.hid (by
        rw [List.take_add_one, List.getElem?_eq_getElem (by have := HN.out; omega), ← hs']
        simp)
      have LK : Hid ((((ss.take k).map leafD).map str).length = k) := Lib.hid (by rw [List.length_map, List.length_map, List.length_take, ← HN.out]; omega)
      obtain ⟨d, hd'⟩ : ∃ d, d = leafD s := ⟨_, rfl⟩
      rw [← hd'] at c1 et
      clear hs' hc hd'
      go_wp2_with fail
      refine c1.mono ?_; rintro e_ w2 ⟨rfl, hb2⟩
      have hv2 := hv.keep hb2
      have hB2 := hb.trans (hb2.mono hb.size)
      clear c1 hv hb hb2
      have al := (Below.refl w2.heap.size w2).alloc (Nat.le_refl _) (.cells #[str d] 9)
      have hv_ := hv2.keep al
      have hB_ := hB2.trans (al.mono hB2.size)
      have lv_ := fun g hg => (hv_.lt g hg).1
      clear hv2 hB2 al
      go_wp2_with (at_builtin; refine wpList_append_newX _ rfl _ _ 22 rfl w.heap.size 9 16 (str []) rfl Tryd.underlying22 infoS _ _ rfl hv_ _ 1 (str d) rfl rfl (cell_new1 _ _ _ _) (by rw [LK.out]; omega) (by rw [LK.out]; omega) hB_.size ?_)
      intro v_ w4 hv4 hg_ ho_
      have hB4 := hB_.grown hg_ hB_.size lv_
      clear hv_ hg_ ho_ hB_ lv_
      go_wp2_with fail
      go_roundw
      case rel => exact ⟨k + 1, by omega, by go_num, by rw [et.out]; simpa using hv4, hB4⟩
      case measure => simp [intOf]; omega
    · obtain rfl : k = n := by omega
      have hd : decide ((k : Int) < (k : Int)) = false := decide_eq_false (by omega)
      rw [List.take_of_length_le (by have := HN.out; omega)] at hv
      go_wp2_with fail
      go_ret
      exact ⟨_, rfl, hv, hb⟩

set_option maxHeartbeats 16000000 in
set_option maxRecDepth 20000 in
theorem up_c (A : Option Addr) (cap : Nat) (ss : List (List Int)) (w : World) (hs : Ss w A cap ss) (hl : ∀ s ∈ ss, Dig s) (hn : ss.length ≤ 4294967296) (ht : RefTabs w) :
    Calls Tryd.prog 43 #[.slice A ss.length cap] w (StrsPost (upL pairD ss) w) := by
  obtain ⟨n, hn'⟩ : ∃ n, n = ss.length := ⟨_, rfl⟩
  have HN := Lib.hid hn'
  rw [← hn'] at hn ⊢
  clear hn'
  obtain ⟨U, hU⟩ : ∃ u, u = upL pairD ss := ⟨_, rfl⟩
  have HU := Lib.hid hU
  rw [← hU]
  have LU : U.length = (n + 1) / 2 := by rw [hU, upL_len, ← HN.out]
  clear hU
  go_enter Tryd.func43, Tryd.ntmps43
  go_wp2_with fail
  go_loopw [3, 4] (fun v t wr => ∃ k : Nat, 2 * k ≤ n ∧ t = .int .i64 ((2 * k : Nat) : Int) ∧ NewV w.heap.size 9 wr v ((U.take k).map str) ∧ Below w.heap.size w wr) (fun _ t _ => n - (intOf t).toNat)
  case atStart => exact ⟨0, by omega, rfl, .nil _ _ _, .refl _ _⟩
  case round =>
    obtain ⟨k, hk, rfl, hv, hb⟩ := hrel
    have LK : Hid (((U.take k).map str).length = k) := Lib.hid (by rw [List.length_map, List.length_take, LU]; omega)
    obtain ⟨i, hi⟩ : ∃ i, i = 2 * k := ⟨_, rfl⟩
    rw [← hi] at hk ⊢
    have HI := Lib.hid hi
    have lku : k < 4294967296 := by omega
    clear hi
    by_cases hlt : i + 1 < n
    · have hd : decide ((i : Int) + 1 < (n : Int)) = true := decide_eq_true (by omega)
      have hd2 : (i : Int) + 1 < (n : Int) := by omega
      have hd3 : decide (i + 1 < n) = true := decide_eq_true hlt
      have hki : (i : Int) < (n : Int) := by omega
      obtain ⟨b, off, rfl, hc⟩ := hs.at_ (by have := HN.out; omega)
      have lbw : b < w.heap.size := World.block_lt_of_cell? _ _ (hc 0 (by have := HN.out; omega))
      replace hc := fun j hj => (World.cell?_of_block (a := ⟨b, off + j, none⟩) (hb.block b lbw)).trans (hc j hj)
      have ck := hc i (by have := HN.out; omega)
      have ck2 := hc (i + 1) (by have := HN.out; omega)
      obtain ⟨s, hs'⟩ : ∃ s, s = ss[i]'(by have := HN.out; omega) := ⟨_, rfl⟩
      obtain ⟨s2, hs2'⟩ : ∃ s, s = ss[i + 1]'(by have := HN.out; omega) := ⟨_, rfl⟩
      have ds : Dig s := by rw [hs']; exact hl _ (List.getElem_mem _)
      have ds2 : Dig s2 := by rw [hs2']; exact hl _ (List.getElem_mem _)
      rw [← hs'] at ck
      rw [← hs2'] at ck2
      have et : Hid ((U.take (k + 1)).map str = (U.take k).map str ++ [str (pairD s s2)]) := Lib.hid (by
        have := upL_at (P := pairD) k ss (by rw [← HN.out]; have := HI.out; omega)
        rw [List.take_add_one, HU.out, this, hs', hs2']
        have e := HI.out
        subst e
        simp)
      obtain ⟨d, hd'⟩ : ∃ d, d = pairD s s2 := ⟨_, rfl⟩
      have HD := Lib.hid hd'
      rw [← hd'] at et
      have lb : b < wr.heap.size := World.block_lt_of_cell? _ _ ck
      have wi : IntKind.i64.wrap ((i : Int) + 1) = (i : Int) + 1 := by rw [IntKind.wrap_i64]; omega
      have w0 : (0 : Int) ≤ (i : Int) + 1 := by omega
      have wn : ((i : Int) + 1).toNat = i + 1 := by omega
      clear hs' hs2' hc hd'
      go_wp2_with fail
      refine wp_region_held_drew (S := fun W => W.cell? ⟨b, off + i, none⟩ = some (str s) ∧ W.cell? ⟨b, off + (i + 1), none⟩ = some (str s2)) (by kernel_rfl) (⟨ck, ck2⟩) (fun hS => ?_)
      refine wpAnyH_take (i := 0) (v := ?_) rfl (by kernel_rfl) (by kernel_rfl) (by kernel_rfl) (fun _ _ _ h => h) (Or.inl ⟨by rfl, ?_⟩) hS ?_
      rotate_left
      · intro w _; go_simp; try with_reducible rfl
      simp only [List.getElem_toArray, List.getElem_cons_zero, List.getElem_cons_succ, Act.put, List.setIfInBounds_toArray, List.set_cons_zero, List.set_cons_succ]
      refine wpAnyH_take (i := 1) (v := ?_) rfl (by kernel_rfl) (by kernel_rfl) (by kernel_rfl) (fun _ _ _ h => h) (Or.inl ⟨by rfl, ?_⟩) hS ?_
      rotate_left
      · intro w _; go_simp; try with_reducible rfl
      simp only [List.getElem_toArray, List.getElem_cons_zero, List.getElem_cons_succ, Act.put, List.setIfInBounds_toArray, List.set_cons_zero, List.set_cons_succ]
      refine wpAnyH_take (i := 2) (v := ?_) rfl (by kernel_rfl) (by kernel_rfl) (by kernel_rfl) (fun _ _ _ h => h) (Or.inl ⟨by rfl, ?_⟩) hS ?_
      rotate_left
      · intro w _; go_simp; try with_reducible rfl
      simp only [List.getElem_toArray, List.getElem_cons_zero, List.getElem_cons_succ, Act.put, List.setIfInBounds_toArray, List.set_cons_zero, List.set_cons_succ]
      refine wpAnyH_take (i := 3) (v := ?_) rfl (by kernel_rfl) (by kernel_rfl) (by kernel_rfl) (fun _ _ _ h => h) (Or.inl ⟨by rfl, ?_⟩) hS ?_
      rotate_left
      · intro w _; go_simp; try with_reducible rfl
      simp only [List.getElem_toArray, List.getElem_cons_zero, List.getElem_cons_succ, Act.put, List.setIfInBounds_toArray, List.set_cons_zero, List.set_cons_succ]
      refine wpAnyH_take (i := 4) (v := ?_) rfl (by kernel_rfl) (by kernel_rfl) (by kernel_rfl) (fun _ _ _ h => h) (Or.inl ⟨by rfl, ?_⟩) hS ?_
      rotate_left
      · intro W_ hW_; obtain ⟨c1_, c2_⟩ := hW_; go_simp; try with_reducible rfl
      simp only [List.getElem_toArray, List.getElem_cons_zero, List.getElem_cons_succ, Act.put, List.setIfInBounds_toArray, List.set_cons_zero, List.set_cons_succ]
      refine wpAnyH_take (i := 5) (v := ?_) rfl (by kernel_rfl) (by kernel_rfl) (by kernel_rfl) (fun _ _ _ h => h) (Or.inl ⟨by rfl, ?_⟩) hS ?_
      rotate_left
      · intro w _; go_simp; try with_reducible rfl
      simp only [List.getElem_toArray, List.getElem_cons_zero, List.getElem_cons_succ, Act.put, List.setIfInBounds_toArray, List.set_cons_zero, List.set_cons_succ]
      refine wpAnyH_take (i := 6) (v := ?_) rfl (by kernel_rfl) (by kernel_rfl) (by kernel_rfl) (fun _ _ _ h => h) (Or.inl ⟨by rfl, ?_⟩) hS ?_
      rotate_left
      · intro w _; go_simp; try with_reducible rfl
      simp only [List.getElem_toArray, List.getElem_cons_zero, List.getElem_cons_succ, Act.put, List.setIfInBounds_toArray, List.set_cons_zero, List.set_cons_succ]
      refine wpAnyH_take (i := 7) (v := ?_) rfl (by kernel_rfl) (by kernel_rfl) (by kernel_rfl) (fun _ _ _ h => h) (Or.inl ⟨by rfl, ?_⟩) hS ?_
      rotate_left
      · intro w _; go_simp; try with_reducible rfl
      simp only [List.getElem_toArray, List.getElem_cons_zero, List.getElem_cons_succ, Act.put, List.setIfInBounds_toArray, List.set_cons_zero, List.set_cons_succ]
      refine wpAnyH_take (i := 8) (v := ?_) rfl (by kernel_rfl) (by kernel_rfl) (by kernel_rfl) (fun _ _ _ h => h) (Or.inl ⟨by rfl, ?_⟩) hS ?_
      rotate_left
      · intro w _; go_simp; try with_reducible rfl
      simp only [List.getElem_toArray, List.getElem_cons_zero, List.getElem_cons_succ, Act.put, List.setIfInBounds_toArray, List.set_cons_zero, List.set_cons_succ]
      refine wpAnyH_take (i := 9) (v := ?_) rfl (by kernel_rfl) (by kernel_rfl) (by kernel_rfl) (fun _ _ _ h => h) (Or.inl ⟨by rfl, ?_⟩) hS ?_
      rotate_left
      · intro W_ hW_; obtain ⟨c1_, c2_⟩ := hW_; go_simp; try with_reducible rfl
      simp only [List.getElem_toArray, List.getElem_cons_zero, List.getElem_cons_succ, Act.put, List.setIfInBounds_toArray, List.set_cons_zero, List.set_cons_succ]
      have hBd : Below w.heap.size w (World.drew wr) := below_drewN hb 1
      have hvd : NewV w.heap.size 9 (World.drew wr) _ ((U.take k).map str) := hv
      have lbd : b < (World.drew wr).heap.size := lb
      obtain ⟨W, hW⟩ : ∃ W, W = World.drew wr := ⟨_, rfl⟩
      rw [← hW] at hS hBd hvd lbd ⊢
      have KP : Hid (∀ V V' : World, b < V.heap.size → Below V.heap.size V V' → (V.cell? ⟨b, off + i, none⟩ = some (str s) ∧ V.cell? ⟨b, off + (i + 1), none⟩ = some (str s2)) → (V'.cell? ⟨b, off + i, none⟩ = some (str s) ∧ V'.cell? ⟨b, off + (i + 1), none⟩ = some (str s2))) := Lib.hid (by
        intro V V' hlt hb h
        exact ⟨by rw [World.cell?_of_block (w := V) (hb.block b hlt)]; exact h.1, by rw [World.cell?_of_block (w := V) (hb.block b hlt)]; exact h.2⟩)
      have c1 := rPair_c s s2 W ds.2 ds2.2 (by rw [ds.1, ds2.1]; omega) (ht.below hBd)
      rw [← HD.out] at c1
      clear hW hv hb lb ck ck2 wi w0 wn
      refine wpAnyH_ready (rs := [10]) (by kernel_rfl) (by simp) ?_
      refine AllReadyH.cons rfl (fun K hK => ?_) AllReadyH.nil
      rw [if_pos (by rfl)]
      simp only [List.getElem_toArray, List.getElem_cons_zero, List.getElem_cons_succ]
      go_simp
      refine c1.mono ?_; rintro e_ w3 ⟨rfl, hb3⟩
      dsimp only
      refine hK.out _ _ (KP.out _ _ lbd hb3 hS) (fun hS => ?_)
      have hv3 := hvd.keep hb3
      have hB3 := hBd.trans (hb3.mono hBd.size)
      have lb3 : b < w3.heap.size := Nat.lt_of_lt_of_le lbd hb3.size
      clear c1 hvd hBd hb3 lbd
      have al := (Below.refl w3.heap.size w3).alloc (Nat.le_refl _) (.cells #[str d] 9)
      refine wpAnyH_ready (rs := [11]) (by kernel_rfl) (by simp) ?_
      refine AllReadyH.cons rfl (fun K hK => ?_) AllReadyH.nil
      rw [if_pos (by rfl)]
      simp only [List.getElem_toArray, List.getElem_cons_zero, List.getElem_cons_succ]
      go_simp
      refine hK.out _ _ (KP.out _ _ lb3 al hS) (fun hS => ?_)
      have hv4 := hv3.keep al
      have hB4 := hB3.trans (al.mono hB3.size)
      have lb4 : b < (w3.alloc (.cells #[str d] 9)).heap.size := Nat.lt_of_lt_of_le lb3 al.size
      have lv := fun g hg => (hv4.lt g hg).1
      clear hv3 hB3 lb3 al
      refine wpAnyH_ready (rs := [12]) (by kernel_rfl) (by simp) ?_
      refine AllReadyH.cons rfl (fun K hK => ?_) AllReadyH.nil
      rw [if_pos (by rfl)]
      simp only [List.getElem_toArray, List.getElem_cons_zero, List.getElem_cons_succ]
      refine wp_append_newX _ _ 22 rfl w.heap.size 9 16 (str []) rfl Tryd.underlying22 infoS _ _ rfl hv4 _ 1 (str d) rfl rfl (cell_new1 _ _ _ _) (by rw [LK.out]; omega) (by rw [LK.out]; omega) hB4.size ?_
      intro v5 w5 hv5 hg5 ho5
      have nb : some b ≠ Value.ownBlock _ := fun e => Nat.lt_irrefl _ (Nat.lt_of_lt_of_le lbw (lv b e.symm))
      refine hK.out _ _ ⟨by rw [World.cell?_of_block (hg5.block b lb4 nb)]; exact hS.1, by rw [World.cell?_of_block (hg5.block b lb4 nb)]; exact hS.2⟩ (fun hS => ?_)
      have hB5 := hB4.grown hg5 hB4.size lv
      clear nb hv4 hg5 ho5 hB4 lb4 lv
      refine wpAnyH_ready (rs := [13]) (by kernel_rfl) (by simp) ?_
      refine AllReadyH.cons rfl (fun K hK => ?_) AllReadyH.nil
      rw [if_pos (by rfl)]
      simp only [List.getElem_toArray, List.getElem_cons_zero, List.getElem_cons_succ]
      go_simp
      refine hK.out _ _ hS (fun hS => ?_)
      refine wpAnyH_done (by kernel_rfl) ?_ _
      clear hS
      have wi2 : (i : Int) + 2 < 9223372036854775807 := by omega
      go_wp2_with fail
      go_roundw
      case rel => exact ⟨k + 1, by have := HI.out; omega, by have := HI.out; go_num, by rw [et.out]; exact hv5, hB5⟩
      case measure => simp [intOf]; omega
    · have wi2 : (i : Int) + 1 < 9223372036854775807 := by omega
      by_cases hodd : n % 2 = 1
      · have eik : n = i + 1 := by have := HI.out; omega
        subst eik
        have go_ : (((i : Int) + 1) % 2 == 1) = true := by simp; omega
        have hd : decide ((i : Int) + 1 < (i : Int) + 1) = false := decide_eq_false (by omega)
        obtain ⟨b, off, rfl, hc⟩ := hs.at_ (by have := HN.out; omega)
        have lbw : b < w.heap.size := World.block_lt_of_cell? _ _ (hc 0 (by have := HN.out; omega))
        have ck := (World.cell?_of_block (a := ⟨b, off + i, none⟩) (hb.block b lbw)).trans (hc i (by have := HN.out; omega))
        obtain ⟨d, hd'⟩ : ∃ s, s = ss[i]'(by have := HN.out; omega) := ⟨_, rfl⟩
        rw [← hd'] at ck
        have et : Hid (U.map str = (U.take k).map str ++ [str d]) := Lib.hid (by
          have := upL_last (P := pairD) k ss (by rw [← HN.out]; have := HI.out; omega)
          rw [← HU.out] at this
          have e1 : U.length = k + 1 := by rw [LU]; have := HI.out; omega
          have e2 : U = U.take k ++ [d] := by
            conv => lhs; rw [← List.take_of_length_le (l := U) (i := k + 1) (by omega)]
            rw [List.take_add_one, this, List.getElem?_eq_getElem (by rw [← HN.out]; have := HI.out; omega), hd']
            have e := HI.out
            subst e
            rfl
          conv => lhs; rw [e2]
          simp)
        have hv2 := hv
        have hB2 := hb
        clear hv hb hd' hc hodd hlt
        have al := (Below.refl wr.heap.size wr).alloc (Nat.le_refl _) (.cells #[str d] 9)
        have hv_ := hv2.keep al
        have hB_ := hB2.trans (al.mono hB2.size)
        have lv_ := fun g hg => (hv_.lt g hg).1
        clear hv2 hB2 al
        go_wp2_with (at_builtin; refine wpList_append_newX _ rfl _ _ 22 rfl w.heap.size 9 16 (str []) rfl Tryd.underlying22 infoS _ _ rfl hv_ _ 1 (str d) rfl rfl (cell_new1 _ _ _ _) (by rw [LK.out]; omega) (by rw [LK.out]; omega) hB_.size ?_)
        intro v_ w4 hv4 hg_ ho_
        have hB4 := hB_.grown hg_ hB_.size lv_
        clear hv_ hg_ ho_ hB_ lv_
        go_wp2_with fail
        go_ret
        exact ⟨_, rfl, by rw [et.out]; simpa using hv4, hB4⟩
      · have go_ : ((n : Int) % 2 == 1) = false := by simp; omega
        obtain rfl : n = i := by have := HI.out; omega
        have hd : decide ((n : Int) + 1 < (n : Int)) = false := decide_eq_false (by omega)
        have et : U.take k = U := List.take_of_length_le (by rw [LU]; have := HI.out; omega)
        rw [et] at hv
        clear et hodd hlt
        go_wp2_with fail
        go_ret
        exact ⟨_, rfl, hv, hb⟩
set_option maxHeartbeats 16000000 in
set_option maxRecDepth 20000 in
theorem rRoot_c (A : Option Addr) (cap : Nat) (ss : List (List Int)) (w : World) (hs : Ss w A cap ss) (hl : ∀ s ∈ ss, Dig s) (hn : ss.length ≤ 4294967296) (ht : RefTabs w) :
    Calls Tryd.prog 13 #[.slice A ss.length cap] w (StrPost (rootB ss) w) := by
  by_cases h0 : ss.length = 0
  · obtain rfl : ss = [] := List.length_eq_zero_iff.1 h0
    have e : rootB [] = shaD [] := rootH_any (h' := 0) (by simp) (by simp)
    have cs := sum_c [] w (.nil (by decide)) (by simp) ht
    rw [e, List.length_nil]
    obtain ⟨d, hd⟩ : ∃ d, d = shaD [] := ⟨_, rfl⟩
    rw [← hd] at cs ⊢
    clear hd e h0
    go_enter Tryd.func13, Tryd.ntmps13
    go_wp2_with fail
    refine cs.mono ?_; rintro e_ w2 ⟨rfl, hb⟩
    go_wp2_with fail
    go_ret
    exact ⟨rfl, hb⟩
  · obtain ⟨T, hT⟩ : ∃ d, d = rootB ss := ⟨_, rfl⟩
    have HT := Lib.hid hT
    rw [← hT]
    obtain ⟨n, hn'⟩ : ∃ n, n = ss.length := ⟨_, rfl⟩
    have HN := Lib.hid hn'
    rw [← hn'] at hn h0 ⊢
    have start : Hid (Ss w A cap ss ∧ (∀ s ∈ ss, Dig s) ∧ rootH pairD (shaD []) 63 ss = T ∧ ss.length = n ∧ ss.length ≤ 2 ^ 63) := Lib.hid ⟨hs, hl, by rw [HT.out]; rfl, hn'.symm, by omega⟩
    have n0 : ((n : Int) == 0) = false := by simp; omega
    clear hT hn' hs hl
    go_enter Tryd.func13, Tryd.ntmps13
    go_wp2_with fail
    clear n0
    go_loopw [0] (fun v wr => ∃ (h : Nat) (a : Option Addr) (c z : Nat) (ls : List (List Int)), v = .slice a z c ∧ z ≤ 4294967296 ∧ 1 ≤ z ∧ Hid (Ss wr a c ls ∧ (∀ s ∈ ls, Dig s) ∧ rootH pairD (shaD []) h ls = T ∧ ls.length = z ∧ ls.length ≤ 2 ^ h) ∧ Below w.heap.size w wr) (fun v _ => match v with | .slice _ z _ => z | _ => 0)
    case atStart => exact ⟨63, A, cap, n, ss, rfl, hn, by omega, start, .refl _ _⟩
    case round =>
      obtain ⟨h, a, c, z, ls, rfl, hz1, hz2, H, hb⟩ := hrel
      clear start
      by_cases hlt : 1 < z
      · have d1 : decide ((1 : Int) < (z : Int)) = true := decide_eq_true (by omega)
        have d2 : decide (1 < z) = true := decide_eq_true hlt
        have d3 : (1 : Int) < (z : Int) := by omega
        have c1 := up_c a c ls wr H.out.1 H.out.2.1 (by rw [H.out.2.2.2.1]; exact hz1) (ht.below hb)
        unfold StrsPost at c1
        rw [H.out.2.2.2.1] at c1
        obtain ⟨U, hU⟩ : ∃ u, u = upL pairD ls := ⟨_, rfl⟩
        have HU : Hid ((∀ s ∈ U, Dig s) ∧ rootH pairD (shaD []) (h - 1) U = T ∧ U.length = (z + 1) / 2 ∧ U.length ≤ 2 ^ (h - 1)) := Lib.hid (by
          obtain ⟨_, h2, h3, h4, h5⟩ := H.out
          have hh : h = (h - 1) + 1 := by
            cases h with
            | zero => simp at h5; omega
            | succ h => rfl
          have e1 := pow2_succ (h - 1)
          rw [← hh] at e1
          have lu : U.length = (z + 1) / 2 := by rw [hU, upL_len, h4]
          refine ⟨by rw [hU]; exact upL_dig h2, ?_, lu, by omega⟩
          rw [hh, rootH_up (h - 1) ls (by rw [← hh]; exact h5)] at h3
          rw [hU]; exact h3)
        rw [← hU] at c1
        clear hU
        go_wp2_with fail
        refine c1.mono ?_; rintro e_ w2 ⟨v, rfl, hv, hb2⟩
        obtain ⟨a2, c2, rfl, s2⟩ := hv.ss (fun s hs => (HU.out.1 s hs).2)
        have hB2 := hb.trans (hb2.mono hb.size)
        obtain ⟨z2, hz2'⟩ : ∃ z2, z2 = U.length := ⟨_, rfl⟩
        have HZ2 := Lib.hid hz2'
        have ez : z2 = (z + 1) / 2 := by rw [hz2']; exact HU.out.2.2.1
        have HE := Lib.hid ez
        rw [← hz2']
        clear hz2' ez c1 hv hb2 H
        go_wp2_with fail
        go_roundw
        case rel => exact ⟨h - 1, a2, c2, z2, U, rfl, by have := HE.out; omega, by have := HE.out; omega, Lib.hid ⟨s2, HU.out.1, HU.out.2.1, HZ2.out.symm, HU.out.2.2.2⟩, hB2⟩
        case measure =>
          have := HE.out
          show z2 < z
          omega
      · obtain rfl : z = 1 := by omega
        obtain ⟨h1, h2, h3, h4, h5⟩ := H.out
        match ls, h4 with
        | [x], _ =>
          obtain ⟨b, off, rfl, hc⟩ := h1.at_ (by simp)
          have ck := hc 0 (by simp)
          have ex : Hid (x = T) := Lib.hid (by rw [← h3]; exact (rootH_any (h' := 0) h5 (by simp)).symm)
          simp only [List.getElem_cons_zero, Nat.add_zero] at ck
          clear h1 h2 h3 h4 h5 H hc
          go_wp2_with fail
          go_ret
          exact ⟨by rw [ex.out]; rfl, hb⟩

set_option maxHeartbeats 16000000 in
set_option maxRecDepth 20000 in
theorem rProof_c (A : Option Addr) (cap : Nat) (ss : List (List Int)) (i0 : Int) (w : World) (hs : Ss w A cap ss) (hl : ∀ s ∈ ss, Dig s) (hn : ss.length ≤ 4294967296) (ht : RefTabs w) :
    Calls Tryd.prog 32 #[.slice A ss.length cap, .int .i64 i0] w (StrsOrPost (if 0 ≤ i0 ∧ i0 < (ss.length : Int) then some (pathB ss i0.toNat) else none) w) := by
  obtain ⟨n, hn'⟩ : ∃ n, n = ss.length := ⟨_, rfl⟩
  have HN := Lib.hid hn'
  rw [← hn'] at hn ⊢
  by_cases hi0 : 0 ≤ i0
  · have g0 : decide (i0 < 0) = false := decide_eq_false (by omega)
    have g0' : ¬ i0 < 0 := by omega
    obtain ⟨i, rfl⟩ : ∃ j : Nat, i0 = (j : Int) := ⟨i0.toNat, by omega⟩
    by_cases hi1 : (i : Int) < (n : Int)
    · rw [if_pos ⟨hi0, hi1⟩, Int.toNat_natCast]
      obtain ⟨T, hT⟩ : ∃ d, d = pathB ss i := ⟨_, rfl⟩
      rw [← hT]
      have LT : T.length ≤ 63 := by rw [hT]; exact pathB_le _ _
      have start : Hid (Ss w A cap ss ∧ (∀ s ∈ ss, Dig s) ∧ [] ++ pathH pairD (shaD []) 63 ss i = T ∧ ss.length = n ∧ ss.length ≤ 2 ^ 63) := Lib.hid ⟨hs, hl, by rw [hT]; rfl, hn'.symm, by omega⟩
      have g1 : decide ((n : Int) ≤ (i : Int)) = false := decide_eq_false (by omega)
      have g1' : ¬ (n : Int) ≤ (i : Int) := by omega
      have g1n : decide (n ≤ i) = false := decide_eq_false (by omega)
      have g1n' : ¬ n ≤ i := by omega
      have hin : i < n := by omega
      clear hT hn' hs hl
      go_enter Tryd.func32, Tryd.ntmps32
      go_wp2_with fail
      clear g0 g0' g1 g1' g1n g1n' hi0 hi1
      go_loopw [0, 1, 6, 7] (fun v si sv _ wr => ∃ (h : Nat) (a : Option Addr) (c z i : Nat) (ls L : List (List Int)), v = .slice a z c ∧ si = .int .i64 (i : Int) ∧ z ≤ 4294967296 ∧ i < z ∧ NewV w.heap.size 9 wr sv (L.map str) ∧ Hid (Ss wr a c ls ∧ (∀ s ∈ ls, Dig s) ∧ L ++ pathH pairD (shaD []) h ls i = T ∧ ls.length = z ∧ ls.length ≤ 2 ^ h) ∧ Aside a sv ∧ Below w.heap.size w wr) (fun v _ _ _ _ => match v with | .slice _ z _ => z | _ => 0)
      case atStart => exact ⟨63, A, cap, n, i, ss, [], rfl, rfl, hn, hin, .nil _ _ _, start, .nil _, .refl _ _⟩
      case round =>
        clear hin
        obtain ⟨h, a, c, z, i, ls, L, rfl, rfl, hz1, hiz, hv, H, AS, hb⟩ := hrel
        clear start
        have AL := Lib.hid (H.out.1.lt (by rw [H.out.2.2.2.1]; omega))
        have LL : L.length ≤ 63 := by have := H.out.2.2.1; rw [← this, List.length_append] at LT; omega
        by_cases hlt : 1 < z
        · have d1 : decide ((1 : Int) < (z : Int)) = true := decide_eq_true (by omega)
          have d2 : decide (1 < z) = true := decide_eq_true hlt
          have d3 : (1 : Int) < (z : Int) := by omega
          obtain ⟨U, hU⟩ : ∃ u, u = upL pairD ls := ⟨_, rfl⟩
          obtain ⟨N, hN⟩ : ∃ N, N = L ++ besideL ls i := ⟨_, rfl⟩
          have HU : Hid ((∀ s ∈ U, Dig s) ∧ N ++ pathH pairD (shaD []) (h - 1) U (i / 2) = T ∧ U.length = (z + 1) / 2 ∧ U.length ≤ 2 ^ (h - 1)) := Lib.hid (by
            obtain ⟨_, h2, h3, h4, h5⟩ := H.out
            have hh : h = (h - 1) + 1 := by
              cases h with
              | zero => simp at h5; omega
              | succ h => rfl
            have e1 := pow2_succ (h - 1)
            rw [← hh] at e1
            have lu : U.length = (z + 1) / 2 := by rw [hU, upL_len, h4]
            refine ⟨by rw [hU]; exact upL_dig h2, ?_, lu, by omega⟩
            rw [hh, pathH_up (h - 1) ls i (by rw [← hh]; exact h5) (by omega), ← List.append_assoc] at h3
            rw [hU, hN]; exact h3)
          have c1 := fun W (sW : Ss W a c ls) (hB : Below w.heap.size w W) => up_c a c ls W sW H.out.2.1 (by rw [H.out.2.2.2.1]; exact hz1) (ht.below hB)
          unfold StrsPost at c1
          rw [H.out.2.2.2.1, ← hU] at c1
          clear hU
          have wi1 : (i : Int) + 1 < 9223372036854775807 := by omega
          by_cases hodd : i % 2 = 1
          · have go_ : ((i : Int) % 2 == 1) = true := by simp; omega
            obtain ⟨j, rfl⟩ : ∃ j, i = j + 1 := ⟨i - 1, by omega⟩
            have hjz : j < z := by omega
            obtain ⟨b, off, rfl, hc⟩ := H.out.1.at_ (by rw [H.out.2.2.2.1]; omega)
            have ck := hc j (by rw [H.out.2.2.2.1]; exact hjz)
            obtain ⟨d, hd'⟩ : ∃ s, s = ls[j]'(by rw [H.out.2.2.2.1]; exact hjz) := ⟨_, rfl⟩
            rw [← hd'] at ck
            have et : Hid (N = L ++ [d]) := Lib.hid (by
              rw [hN]
              unfold besideL
              rw [if_pos hodd, Nat.add_sub_cancel, List.getElem?_eq_getElem (by rw [H.out.2.2.2.1]; exact hjz), hd']
              rfl)
            rw [show ((j + 1 : Nat) : Int) = (j : Int) + 1 by omega] at go_ wi1 ⊢
            have jz : (j : Int) < (z : Int) := by omega
            have jzd : decide ((j : Int) < (z : Int)) = true := decide_eq_true jz
            have jzn : decide (j < z) = true := decide_eq_true hjz
            have hv2 := hv
            have hB2 := hb
            clear hv hb hd' hc hN hodd
            have al := (Below.refl wr.heap.size wr).alloc (Nat.le_refl _) (.cells #[str d] 9)
            have hv_ := hv2.keep al
            have hB_ := hB2.trans (al.mono hB2.size)
            have lv_ := fun g hg => (hv_.lt g hg).1
            clear hv2 hB2 al
            go_wp2_with (at_builtin; refine wpList_append_newX _ rfl _ _ 22 rfl w.heap.size 9 16 (str []) rfl Tryd.underlying22 infoS _ _ rfl hv_ _ 1 (str d) rfl rfl (cell_new1 _ _ _ _) (by rw [List.length_map]; omega) (by rw [List.length_map]; omega) hB_.size ?_)
            intro v_ w4 hv4 hg_ ho_
            have hB4 := hB_.grown hg_ hB_.size lv_
            have s4 := ((H.out.1.below (w' := wr.alloc (.cells #[str d] 9)) ((Below.refl _ _).alloc (Nat.le_refl _) _))).grown hg_ AS
            have AS4 := Aside.grow AS ho_ (fun x e => Nat.lt_of_lt_of_le (AL.out x e) (by simp))
            clear hv_ hg_ ho_ hB_ lv_ AS
            have hB5 := hB4
            have c2 := c1 w4 s4 hB4
            clear c1 hB4
            go_wp2_with fail
            refine c2.mono ?_; rintro e_ w6 ⟨v, rfl, hv6, hb6⟩
            have f6 : ∀ g, v.ownBlock = some g → w4.heap.size ≤ g := fun g hg => (hv6.lt g hg).1
            obtain ⟨a2, c2', rfl, s2⟩ := hv6.ss (fun s hs => (HU.out.1 s hs).2)
            have AS6 : Aside a2 _ := fun x ha e => Nat.lt_irrefl _ (Nat.lt_of_lt_of_le (hv4.lt x.block e.symm).2 (f6 x.block (by rw [ha]; rfl)))
            have hB6 := hB5.trans (hb6.mono hB5.size)
            have hV6 := hv4.keep hb6
            obtain ⟨z2, hz2'⟩ : ∃ z2, z2 = U.length := ⟨_, rfl⟩
            have HZ2 := Lib.hid hz2'
            have ez : z2 = (z + 1) / 2 := by rw [hz2']; exact HU.out.2.2.1
            have HE := Lib.hid ez
            rw [← hz2']
            clear hz2' ez c2 hv6 hb6 H hv4 hB5 f6
            go_wp2_with fail
            go_roundw
            case rel => exact ⟨h - 1, a2, c2', z2, (j + 1) / 2, U, N, rfl, by go_num, by have := HE.out; omega, by have := HE.out; omega, by rw [et.out]; simpa using hV6, Lib.hid ⟨s2, HU.out.1, HU.out.2.1, HZ2.out.symm, HU.out.2.2.2⟩, AS6, hB6⟩
            case measure =>
              have := HE.out
              show z2 < z
              omega
          · have go_ : ((i : Int) % 2 == 1) = false := by simp; omega
            by_cases hbz : i + 1 < z
            · obtain ⟨b, off, rfl, hc⟩ := H.out.1.at_ (by rw [H.out.2.2.2.1]; omega)
              have ck := hc (i + 1) (by rw [H.out.2.2.2.1]; exact hbz)
              obtain ⟨d, hd'⟩ : ∃ s, s = ls[i + 1]'(by rw [H.out.2.2.2.1]; exact hbz) := ⟨_, rfl⟩
              rw [← hd'] at ck
              have et : Hid (N = L ++ [d]) := Lib.hid (by
                rw [hN]
                unfold besideL
                rw [if_neg hodd, List.getElem?_eq_getElem (by rw [H.out.2.2.2.1]; exact hbz), hd']
                rfl)
              have jz : (i : Int) + 1 < (z : Int) := by omega
              have jzd : decide ((i : Int) + 1 < (z : Int)) = true := decide_eq_true jz
              have jzn : decide (i + 1 < z) = true := decide_eq_true hbz
              have hv2 := hv
              have hB2 := hb
              clear hv hb hd' hc hN hodd
              have al := (Below.refl wr.heap.size wr).alloc (Nat.le_refl _) (.cells #[str d] 9)
              have hv_ := hv2.keep al
              have hB_ := hB2.trans (al.mono hB2.size)
              have lv_ := fun g hg => (hv_.lt g hg).1
              clear hv2 hB2 al
              go_wp2_with (at_builtin; refine wpList_append_newX _ rfl _ _ 22 rfl w.heap.size 9 16 (str []) rfl Tryd.underlying22 infoS _ _ rfl hv_ _ 1 (str d) rfl rfl (cell_new1 _ _ _ _) (by rw [List.length_map]; omega) (by rw [List.length_map]; omega) hB_.size ?_)
              intro v_ w4 hv4 hg_ ho_
              have hB4 := hB_.grown hg_ hB_.size lv_
              have s4 := ((H.out.1.below (w' := wr.alloc (.cells #[str d] 9)) ((Below.refl _ _).alloc (Nat.le_refl _) _))).grown hg_ AS
              have AS4 := Aside.grow AS ho_ (fun x e => Nat.lt_of_lt_of_le (AL.out x e) (by simp))
              clear hv_ hg_ ho_ hB_ lv_ AS
              have hB5 := hB4
              have c2 := c1 w4 s4 hB4
              clear c1 hB4
              go_wp2_with fail
              refine c2.mono ?_; rintro e_ w6 ⟨v, rfl, hv6, hb6⟩
              have f6 : ∀ g, v.ownBlock = some g → w4.heap.size ≤ g := fun g hg => (hv6.lt g hg).1
              obtain ⟨a2, c2', rfl, s2⟩ := hv6.ss (fun s hs => (HU.out.1 s hs).2)
              have AS6 : Aside a2 _ := fun x ha e => Nat.lt_irrefl _ (Nat.lt_of_lt_of_le (hv4.lt x.block e.symm).2 (f6 x.block (by rw [ha]; rfl)))
              have hB6 := hB5.trans (hb6.mono hB5.size)
              have hV6 := hv4.keep hb6
              obtain ⟨z2, hz2'⟩ : ∃ z2, z2 = U.length := ⟨_, rfl⟩
              have HZ2 := Lib.hid hz2'
              have ez : z2 = (z + 1) / 2 := by rw [hz2']; exact HU.out.2.2.1
              have HE := Lib.hid ez
              rw [← hz2']
              clear hz2' ez c2 hv6 hb6 H hv4 hB5 f6
              go_wp2_with fail
              go_roundw
              case rel => exact ⟨h - 1, a2, c2', z2, i / 2, U, N, rfl, by go_num, by have := HE.out; omega, by have := HE.out; omega, by rw [et.out]; simpa using hV6, Lib.hid ⟨s2, HU.out.1, HU.out.2.1, HZ2.out.symm, HU.out.2.2.2⟩, AS6, hB6⟩
              case measure =>
                have := HE.out
                show z2 < z
                omega
            · have et : Hid (N = L) := Lib.hid (by
                rw [hN]
                unfold besideL
                rw [if_neg hodd, List.getElem?_eq_none (by rw [H.out.2.2.2.1]; omega)]
                simp)
              have jz : ¬ (i : Int) + 1 < (z : Int) := by omega
              have jzd : decide ((i : Int) + 1 < (z : Int)) = false := decide_eq_false jz
              have jzn : decide (i + 1 < z) = false := decide_eq_false hbz
              have hv4 := hv
              have c2 := c1 wr H.out.1 hb
              have AS4 := AS
              have hB5 := hb
              clear hv c1 hb hN hodd AS
              go_wp2_with fail
              refine c2.mono ?_; rintro e_ w6 ⟨v, rfl, hv6, hb6⟩
              have f6 : ∀ g, v.ownBlock = some g → wr.heap.size ≤ g := fun g hg => (hv6.lt g hg).1
              obtain ⟨a2, c2', rfl, s2⟩ := hv6.ss (fun s hs => (HU.out.1 s hs).2)
              have AS6 : Aside a2 _ := fun x ha e => Nat.lt_irrefl _ (Nat.lt_of_lt_of_le (hv4.lt x.block e.symm).2 (f6 x.block (by rw [ha]; rfl)))
              have hB6 := hB5.trans (hb6.mono hB5.size)
              have hV6 := hv4.keep hb6
              obtain ⟨z2, hz2'⟩ : ∃ z2, z2 = U.length := ⟨_, rfl⟩
              have HZ2 := Lib.hid hz2'
              have ez : z2 = (z + 1) / 2 := by rw [hz2']; exact HU.out.2.2.1
              have HE := Lib.hid ez
              rw [← hz2']
              clear hz2' ez c2 hv6 hb6 H hv4 hB5 f6
              go_wp2_with fail
              go_roundw
              case rel => exact ⟨h - 1, a2, c2', z2, i / 2, U, N, rfl, by go_num, by have := HE.out; omega, by have := HE.out; omega, by rw [et.out]; simpa using hV6, Lib.hid ⟨s2, HU.out.1, HU.out.2.1, HZ2.out.symm, HU.out.2.2.2⟩, AS6, hB6⟩
              case measure =>
                have := HE.out
                show z2 < z
                omega
        · obtain rfl : z = 1 := by omega
          obtain rfl : i = 0 := by omega
          obtain ⟨h1, h2, h3, h4, h5⟩ := H.out
          have ex : Hid (L = T) := Lib.hid (by
            rw [← h3, pathH_any (h' := 0) h5 (by omega)]
            simp [pathH])
          clear h1 h2 h3 h4 h5 H
          go_wp2_with fail
          go_ret2
          exact ⟨_, rfl, by rw [← ex.out]; exact hv, hb⟩
    · rw [if_neg (fun h => hi1 h.2)]
      have g1 : decide ((n : Int) ≤ (i : Int)) = true := decide_eq_true (by omega)
      have g1' : (n : Int) ≤ (i : Int) := by omega
      have g1n : decide (n ≤ i) = true := decide_eq_true (by omega)
      have g1n' : n ≤ i := by omega
      clear hn' hs hl
      go_enter Tryd.func32, Tryd.ntmps32
      go_wp2_with fail
      go_ret2
      exact ⟨_, rfl, .nil _ _ _, .refl _ _⟩
  · rw [if_neg (fun h => hi0 h.1)]
    have g0 : decide (i0 < 0) = true := decide_eq_true (by omega)
    have g0' : i0 < 0 := by omega
    clear hn' hs hl
    go_enter Tryd.func32, Tryd.ntmps32
    go_wp2_with fail
    go_ret2
    exact ⟨_, rfl, .nil _ _ _, .refl _ _⟩
set_option maxHeartbeats 16000000 in
set_option maxRecDepth 20000 in
theorem rGrowth_c (A : Option Addr) (cap : Nat) (ss : List (List Int)) (m0 : Int) (w : World) (hs : Ss w A cap ss) (hl : ∀ s ∈ ss, Dig s) (hn : ss.length ≤ 4294967296) (ht : RefTabs w) :
    Calls Tryd.prog 36 #[.slice A ss.length cap, .int .i64 m0] w (StrsOrPost (if 0 ≤ m0 ∧ m0 ≤ (ss.length : Int) then some (growB ss m0.toNat) else none) w) := by
  obtain ⟨n, hn'⟩ : ∃ n, n = ss.length := ⟨_, rfl⟩
  have HN := Lib.hid hn'
  rw [← hn'] at hn ⊢
  by_cases hi0 : 0 ≤ m0
  · have g0 : decide (m0 < 0) = false := decide_eq_false (by omega)
    have g0' : ¬ m0 < 0 := by omega
    obtain ⟨m, rfl⟩ : ∃ j : Nat, m0 = (j : Int) := ⟨m0.toNat, by omega⟩
    by_cases hi1 : (m : Int) ≤ (n : Int)
    · rw [if_pos ⟨hi0, hi1⟩, Int.toNat_natCast]
      have g1 : decide ((n : Int) < (m : Int)) = false := decide_eq_false (by omega)
      have g1' : ¬ (n : Int) < (m : Int) := by omega
      have g1n : decide (n < m) = false := decide_eq_false (by omega)
      have g1n' : ¬ n < m := by omega
      by_cases hm0 : m = 0
      · subst hm0
        rw [show growB ss 0 = [] from rfl]
        clear hn' hs hl
        go_enter Tryd.func36, Tryd.ntmps36
        go_wp2_with fail
        go_ret2
        exact ⟨_, rfl, .nil _ _ _, .refl _ _⟩
      · have hm0' : ((m : Int) == 0) = false := by simp; omega
        by_cases hmn : m = n
        · subst hmn
          rw [show growB ss m = [] by unfold growB; rw [if_neg hm0, hn', partH_same]; rfl]
          have hmm : ((m : Int) == (m : Int)) = true := by simp
          clear hn' hs hl
          go_enter Tryd.func36, Tryd.ntmps36
          go_wp2_with fail
          go_ret2
          exact ⟨_, rfl, .nil _ _ _, .refl _ _⟩
        · have hmm : ((m : Int) == (n : Int)) = false := by simp; omega
          obtain ⟨T, hT⟩ : ∃ d, d = growB ss m := ⟨_, rfl⟩
          have LT : T.length ≤ 64 := by rw [hT]; exact growB_le _ _
          have start : Hid (Ss w A cap ss ∧ (∀ s ∈ ss, Dig s) ∧ partH pairD (shaD []) 63 ss m true ++ ([] : List (List Int)).reverse = T ∧ ss.length = n ∧ ss.length ≤ 2 ^ 63) := Lib.hid ⟨hs, hl, by rw [hT]; unfold growB; rw [if_neg hm0]; simp, hn'.symm, by omega⟩
          rw [← hT]
          have hmN : 1 ≤ m ∧ m ≤ n := by omega
          have TD : Hid (∀ x ∈ T, Dig x) := Lib.hid (by
            have := start.out.2.2.1
            rw [List.reverse_nil, List.append_nil] at this
            rw [← this]; exact part_dig _ _ _ _ start.out.2.1)
          clear hT hn' hs hl
          go_enter Tryd.func36, Tryd.ntmps36
          go_wp2_with fail
          clear g0 g0' g1 g1' g1n g1n' hi0 hi1 hm0' hmm
          go_loopw [0, 1, 6, 7] (fun v sm sv sw wr => ∃ (h : Nat) (a : Option Addr) (c z m : Nat) (ls L : List (List Int)) (W : Bool), v = .slice a z c ∧ sm = .int .i64 (m : Int) ∧ sw = .bool W ∧ z ≤ 4294967296 ∧ (1 ≤ m ∧ m ≤ z) ∧ NewV w.heap.size 9 wr sv (L.map str) ∧ Hid (Ss wr a c ls ∧ (∀ s ∈ ls, Dig s) ∧ partH pairD (shaD []) h ls m W ++ L.reverse = T ∧ ls.length = z ∧ ls.length ≤ 2 ^ h) ∧ Aside a sv ∧ Below w.heap.size w wr) (fun v _ _ _ _ => match v with | .slice _ z _ => z | _ => 0)
          case atStart => exact ⟨63, A, cap, n, m, ss, [], true, rfl, rfl, rfl, hn, hmN, .nil _ _ _, start, .nil _, .refl _ _⟩
          case round =>
            clear hmN hm0 hmn
            obtain ⟨h, a, c, z, m, ls, L, W, rfl, rfl, rfl, hz1, hmz, hv, H, AS, hb⟩ := hrel
            clear start
            have LL : L.length ≤ 64 := by have := H.out.2.2.1; rw [← this, List.length_append, List.length_reverse] at LT; omega
            by_cases hlt : m < z
            · have d1 : decide ((m : Int) < (z : Int)) = true := decide_eq_true (by omega)
              have d2 : decide (m < z) = true := decide_eq_true hlt
              have d3 : (m : Int) < (z : Int) := by omega
              have AL := Lib.hid (H.out.1.lt (by rw [H.out.2.2.2.1]; omega))
              obtain ⟨k, j, hk, hkn, hnk, hs⟩ := half_any z (by omega) (by omega)
              have k0 : 0 < k := by rw [hk]; exact Nat.pow_pos (by omega)
              have zc : z ≤ c := by have := H.out.1.le; rw [H.out.2.2.2.1] at this; exact this
              have lc1 := fun W => cutS_to W a z c k (by omega)
              have lc2 := fun W => cutS_from W a z c k (by omega) zc
              obtain ⟨a2, ha2⟩ : ∃ x, x = (if c - k = 0 then a else a.map (·.add k)) := ⟨_, rfl⟩
              rw [← ha2] at lc2
              have S1 : Hid (∀ V, Ss V a c ls → Ss V a c (ls.take k)) := Lib.hid fun V s => s.take k
              have S2 : Hid (∀ V, Ss V a c ls → Ss V a2 (c - k) (ls.drop k)) := Lib.hid fun V s => by rw [ha2]; exact s.drop k (by rw [H.out.2.2.2.1]; omega)
              have AS2 : Hid (∀ v, Aside a v → Aside a2 v) := Lib.hid fun v s => by rw [ha2]; exact s.move _ _
              have l1 : Hid ((ls.take k).length = k) := Lib.hid (by rw [List.length_take, H.out.2.2.2.1]; omega)
              have l2 : Hid ((ls.drop k).length = z - k) := Lib.hid (by rw [List.length_drop, H.out.2.2.2.1])
              have HK := Lib.hid hk
              have kz : (k : Int) < (z : Int) := by omega
              clear ha2 hk
              by_cases hle : m ≤ k
              · have e1 : decide ((m : Int) ≤ (k : Int)) = true := decide_eq_true (by omega)
                have e2 : decide (m ≤ k) = true := decide_eq_true hle
                have e3 : (m : Int) ≤ (k : Int) := by omega
                have c1 := rRoot_c a2 (c - k) (ls.drop k) wr (S2.out _ H.out.1) (fun s hs => H.out.2.1 s (List.mem_of_mem_drop hs)) (by rw [l2.out]; omega) (ht.below hb)
                rw [l2.out] at c1
                obtain ⟨d, hd'⟩ : ∃ d, d = rootB (ls.drop k) := ⟨_, rfl⟩
                have HU : Hid (partH pairD (shaD []) j (ls.take k) m W ++ (L ++ [d]).reverse = T) := Lib.hid (by
                  have h3 := H.out.2.2.1
                  rw [partH_any H.out.2.2.2.2 (h' := j + 1) (by rw [H.out.2.2.2.1]; exact hnk), partH_left (by rw [H.out.2.2.2.1, ← HK.out]; omega) (by rw [← HK.out]; exact hle), ← HK.out] at h3
                  rw [← h3, hd']
                  unfold rootB
                  rw [rootH_any (h := 63) (h' := j) (by rw [l2.out]; omega) (by rw [l2.out, HK.out] at *; have := HK.out; have := pow2_succ j; omega)]
                  simp)
                rw [← hd'] at c1
                clear hd'
                go_wp2_with fail
                refine (hs _).mono ?_; rintro e_ w2 ⟨rfl, hw'⟩; have hw2 := hw'.symm; subst hw2; clear hw' hs
                go_wp2_with fail
                refine c1.mono ?_; rintro e_ w3 ⟨rfl, hb3⟩
                have hv3 := hv.keep hb3
                have s3 := H.out.1.below hb3
                have hB3 := hb.trans (hb3.mono hb.size)
                have AL3 := Lib.hid (fun x e => Nat.lt_of_lt_of_le (AL.out x e) hb3.size)
                clear c1 hv hb hb3 AL
                have al := (Below.refl w3.heap.size w3).alloc (Nat.le_refl _) (.cells #[str d] 9)
                have hv_ := hv3.keep al
                have hB_ := hB3.trans (al.mono hB3.size)
                have lv_ := fun g hg => (hv_.lt g hg).1
                clear hv3 hB3 al
                go_wp2_with (at_builtin; refine wpList_append_newX _ rfl _ _ 22 rfl w.heap.size 9 16 (str []) rfl Tryd.underlying22 infoS _ _ rfl hv_ _ 1 (str d) rfl rfl (cell_new1 _ _ _ _) (by rw [List.length_map]; omega) (by rw [List.length_map]; omega) hB_.size ?_)
                intro v_ w4 hv4 hg_ ho_
                have hB4 := hB_.grown hg_ hB_.size lv_
                have s4 := ((s3.below (w' := w3.alloc (.cells #[str d] 9)) ((Below.refl _ _).alloc (Nat.le_refl _) _))).grown hg_ AS
                have AS4 := Aside.grow AS ho_ (fun x e => Nat.lt_of_lt_of_le (AL3.out x e) (by simp))
                clear hv_ hg_ ho_ hB_ lv_ AS
                go_wp2_with fail
                go_roundw
                case rel => exact ⟨j, a, c, k, m, ls.take k, L ++ [d], W, rfl, rfl, rfl, by omega, by omega, by simpa using hv4, Lib.hid ⟨S1.out _ s4, fun s hs => H.out.2.1 s (List.mem_of_mem_take hs), HU.out, l1.out, by rw [l1.out, HK.out]; exact Nat.le_refl _⟩, AS4, hB4⟩
                case measure => show k < z; omega
              · have e1 : decide ((m : Int) ≤ (k : Int)) = false := decide_eq_false (by omega)
                have e2 : decide (m ≤ k) = false := decide_eq_false hle
                have e3 : ¬ (m : Int) ≤ (k : Int) := by omega
                have e4 : (k : Int) < (m : Int) := by omega
                have c1 := rRoot_c a c (ls.take k) wr (S1.out _ H.out.1) (fun s hs => H.out.2.1 s (List.mem_of_mem_take hs)) (by rw [l1.out]; omega) (ht.below hb)
                rw [l1.out] at c1
                obtain ⟨d, hd'⟩ : ∃ d, d = rootB (ls.take k) := ⟨_, rfl⟩
                have HU : Hid (partH pairD (shaD []) j (ls.drop k) (m - k) false ++ (L ++ [d]).reverse = T) := Lib.hid (by
                  have h3 := H.out.2.2.1
                  rw [partH_any H.out.2.2.2.2 (h' := j + 1) (by rw [H.out.2.2.2.1]; exact hnk), partH_right (by rw [H.out.2.2.2.1, ← HK.out]; omega) (by rw [H.out.2.2.2.1]; omega) (by rw [← HK.out]; exact hle), ← HK.out] at h3
                  rw [← h3, hd']
                  unfold rootB
                  rw [rootH_any (h := 63) (h' := j) (by rw [l1.out]; omega) (by rw [l1.out, HK.out]; exact Nat.le_refl _)]
                  simp)
                rw [← hd'] at c1
                clear hd'
                go_wp2_with fail
                refine (hs _).mono ?_; rintro e_ w2 ⟨rfl, hw'⟩; have hw2 := hw'.symm; subst hw2; clear hw' hs
                go_wp2_with fail
                refine c1.mono ?_; rintro e_ w3 ⟨rfl, hb3⟩
                have hv3 := hv.keep hb3
                have s3 := H.out.1.below hb3
                have hB3 := hb.trans (hb3.mono hb.size)
                have AL3 := Lib.hid (fun x e => Nat.lt_of_lt_of_le (AL.out x e) hb3.size)
                clear c1 hv hb hb3 AL
                have al := (Below.refl w3.heap.size w3).alloc (Nat.le_refl _) (.cells #[str d] 9)
                have hv_ := hv3.keep al
                have hB_ := hB3.trans (al.mono hB3.size)
                have lv_ := fun g hg => (hv_.lt g hg).1
                clear hv3 hB3 al
                go_wp2_with (at_builtin; refine wpList_append_newX _ rfl _ _ 22 rfl w.heap.size 9 16 (str []) rfl Tryd.underlying22 infoS _ _ rfl hv_ _ 1 (str d) rfl rfl (cell_new1 _ _ _ _) (by rw [List.length_map]; omega) (by rw [List.length_map]; omega) hB_.size ?_)
                intro v_ w4 hv4 hg_ ho_
                have hB4 := hB_.grown hg_ hB_.size lv_
                have s4 := ((s3.below (w' := w3.alloc (.cells #[str d] 9)) ((Below.refl _ _).alloc (Nat.le_refl _) _))).grown hg_ AS
                have AS4 := Aside.grow AS ho_ (fun x e => Nat.lt_of_lt_of_le (AL3.out x e) (by simp))
                clear hv_ hg_ ho_ hB_ lv_ AS
                go_wp2_with fail
                go_roundw
                case rel => exact ⟨j, a2, c - k, z - k, m - k, ls.drop k, L ++ [d], false, rfl, by go_num, rfl, by omega, by omega, by simpa using hv4, Lib.hid ⟨S2.out _ s4, fun s hs => H.out.2.1 s (List.mem_of_mem_drop hs), HU.out, l2.out, by rw [l2.out]; have := HK.out; have := pow2_succ j; omega⟩, AS2.out _ AS4, hB4⟩
                case measure => show z - k < z; omega
            · obtain rfl : m = z := by omega
              have d1 : decide ((m : Int) < (m : Int)) = false := decide_eq_false (by omega)
              cases W with
              | true =>
                have ET : Hid (T = L.reverse) := Lib.hid (by
                  rw [← H.out.2.2.1, ← H.out.2.2.2.1, partH_same, if_pos rfl, List.nil_append])
                have f3 : ∀ x ∈ L, U8 x := fun x hx => (TD.out x (by rw [ET.out]; exact List.mem_reverse.2 hx)).2
                obtain ⟨a3, c3, rfl, s3⟩ := hv.ss f3
                have hB3 := hb
                have LV := Lib.hid (hv.lt)
                clear H AS hv hb hlt
                obtain ⟨Y, hY⟩ : ∃ y, y = L.length := ⟨_, rfl⟩
                have HY := Lib.hid hY
                rw [← hY]
                rw [← hY] at LL
                clear hY
                go_wp2_with fail
                go_loopw [9, 10] (fun v si wr => ∃ (s t : Nat), si = .int .i64 ((s : Int) - 1) ∧ s + t = Y ∧ NewV w.heap.size 9 wr v ((T.take t).map str) ∧ Aside a3 v ∧ Ss wr a3 c3 L ∧ Below w.heap.size w wr) (fun _ si _ => (intOf si + 1).toNat)
                case atStart => exact ⟨Y, 0, rfl, by omega, .nil _ _ _, .nil _, s3, hB3⟩
                case round =>
                  obtain ⟨s, t, rfl, hst, hv, AS, sQ, hb⟩ := hrel
                  clear hB3 s3
                  cases s with
                  | zero =>
                    have en : T.take t = T := List.take_of_length_le (by rw [ET.out, List.length_reverse, ← HY.out]; omega)
                    rw [en] at hv
                    rw [show ((0 : Nat) : Int) - 1 = -1 from rfl]
                    clear en
                    go_wp2_with fail
                    go_ret2
                    exact ⟨_, rfl, hv, hb⟩
                  | succ s =>
                    rw [show ((s + 1 : Nat) : Int) - 1 = (s : Int) by omega]
                    have hsY : s < L.length := by rw [← HY.out]; omega
                    have AL := Lib.hid (sQ.lt (by omega))
                    obtain ⟨b, off, rfl, hc⟩ := sQ.at_ (by omega)
                    have ck := hc s hsY
                    obtain ⟨d, hd'⟩ : ∃ s', s' = L[s] := ⟨_, rfl⟩
                    rw [← hd'] at ck
                    have LK : ((T.take t).map str).length ≤ 65 := by rw [List.length_map, List.length_take]; omega
                    have et : Hid ((T.take (t + 1)).map str = (T.take t).map str ++ [str d]) := Lib.hid (by
                      have e1 : T[t]? = some d := by
                        rw [ET.out, List.getElem?_reverse (by rw [← HY.out]; omega), show L.length - 1 - t = s by rw [← HY.out]; omega, List.getElem?_eq_getElem hsY, hd']
                      rw [List.take_add_one, e1]
                      simp)
                    have sY : (s : Int) < (Y : Int) := by omega
                    obtain ⟨z, hz⟩ : ∃ z, z = (T.take t).map str := ⟨_, rfl⟩
                    rw [← hz] at hv LK et
                    clear hc hd' hsY hz
                    have hv2 := hv
                    have hB2 := hb
                    clear hv hb
                    have al := (Below.refl wr.heap.size wr).alloc (Nat.le_refl _) (.cells #[str d] 9)
                    have hv_ := hv2.keep al
                    have hB_ := hB2.trans (al.mono hB2.size)
                    have lv_ := fun g hg => (hv_.lt g hg).1
                    clear hv2 hB2 al
                    go_wp2_with (at_builtin; refine wpList_append_newX _ rfl _ _ 22 rfl w.heap.size 9 16 (str []) rfl Tryd.underlying22 infoS _ _ rfl hv_ _ 1 (str d) rfl rfl (cell_new1 _ _ _ _) (by omega) (by omega) hB_.size ?_)
                    intro v_ w5 hv6 hg_ ho_
                    have hB6 := hB_.grown hg_ hB_.size lv_
                    have s4 := ((sQ.below (w' := wr.alloc (.cells #[str d] 9)) ((Below.refl _ _).alloc (Nat.le_refl _) _))).grown hg_ AS
                    have AS4 := Aside.grow AS ho_ (fun x e => Nat.lt_of_lt_of_le (AL.out x e) (by simp))
                    clear hv_ hg_ ho_ hB_ lv_ AS
                    go_wp2_with fail
                    go_roundw
                    case rel => exact ⟨s, t + 1, by go_num, by omega, by rw [et.out]; exact hv6, AS4, s4, hB6⟩
                    case measure => simp [intOf]
              | false =>
                have c1 := rRoot_c a c ls wr H.out.1 H.out.2.1 (by rw [H.out.2.2.2.1]; exact hz1) (ht.below hb)
                rw [H.out.2.2.2.1] at c1
                obtain ⟨d, hd'⟩ : ∃ d, d = rootB ls := ⟨_, rfl⟩
                have ET : Hid (T = (L ++ [d]).reverse) := Lib.hid (by
                  have h3 := H.out.2.2.1
                  rw [← H.out.2.2.2.1, partH_same, if_neg (by simp), rootH_any H.out.2.2.2.2 (h' := 63) (by rw [H.out.2.2.2.1]; omega)] at h3
                  rw [← h3, hd']
                  unfold rootB
                  simp)
                have f3 : ∀ x ∈ L ++ [d], U8 x := fun x hx => (TD.out x (by rw [ET.out]; exact List.mem_reverse.2 hx)).2
                rw [← hd'] at c1
                clear hd'
                go_wp2_with fail
                refine c1.mono ?_; rintro e_ w3 ⟨rfl, hb3⟩
                have hv3 := hv.keep hb3
                have hB3' := hb.trans (hb3.mono hb.size)
                clear c1 hv hb hb3 AS H
                have al := (Below.refl w3.heap.size w3).alloc (Nat.le_refl _) (.cells #[str d] 9)
                have hv_ := hv3.keep al
                have hB_ := hB3'.trans (al.mono hB3'.size)
                have lv_ := fun g hg => (hv_.lt g hg).1
                clear hv3 hB3' al
                go_wp2_with (at_builtin; refine wpList_append_newX _ rfl _ _ 22 rfl w.heap.size 9 16 (str []) rfl Tryd.underlying22 infoS _ _ rfl hv_ _ 1 (str d) rfl rfl (cell_new1 _ _ _ _) (by rw [List.length_map]; omega) (by rw [List.length_map]; omega) hB_.size ?_)
                intro v_ w4 hv4 hg_ ho_
                have hB4 := hB_.grown hg_ hB_.size lv_
                clear hv_ hg_ ho_ hB_ lv_
                have hv5 : NewV w.heap.size 9 w4 v_ ((L ++ [d]).map str) := by simpa using hv4
                obtain ⟨a3, c3, rfl, s3⟩ := hv5.ss f3
                have hB3 := hB4
                have LV := Lib.hid (hv5.lt)
                clear hv4 hv5 hB4 hlt
                obtain ⟨Q, hQ⟩ : ∃ q, q = L ++ [d] := ⟨_, rfl⟩
                have LL2 : Q.length ≤ 65 := by rw [hQ]; simp; omega
                rw [← hQ] at s3 f3 ET ⊢
                clear hQ LL
                obtain ⟨Y, hY⟩ : ∃ y, y = Q.length := ⟨_, rfl⟩
                have HY := Lib.hid hY
                rw [← hY]
                rw [← hY] at LL2
                clear hY
                go_wp2_with fail
                go_loopw [9, 10] (fun v si wr => ∃ (s t : Nat), si = .int .i64 ((s : Int) - 1) ∧ s + t = Y ∧ NewV w.heap.size 9 wr v ((T.take t).map str) ∧ Aside a3 v ∧ Ss wr a3 c3 Q ∧ Below w.heap.size w wr) (fun _ si _ => (intOf si + 1).toNat)
                case atStart => exact ⟨Y, 0, rfl, by omega, .nil _ _ _, .nil _, s3, hB3⟩
                case round =>
                  obtain ⟨s, t, rfl, hst, hv, AS, sQ, hb⟩ := hrel
                  clear hB3 s3
                  cases s with
                  | zero =>
                    have en : T.take t = T := List.take_of_length_le (by rw [ET.out, List.length_reverse, ← HY.out]; omega)
                    rw [en] at hv
                    rw [show ((0 : Nat) : Int) - 1 = -1 from rfl]
                    clear en
                    go_wp2_with fail
                    go_ret2
                    exact ⟨_, rfl, hv, hb⟩
                  | succ s =>
                    rw [show ((s + 1 : Nat) : Int) - 1 = (s : Int) by omega]
                    have hsY : s < Q.length := by rw [← HY.out]; omega
                    have AL := Lib.hid (sQ.lt (by omega))
                    obtain ⟨b, off, rfl, hc⟩ := sQ.at_ (by omega)
                    have ck := hc s hsY
                    obtain ⟨d, hd'⟩ : ∃ s', s' = Q[s] := ⟨_, rfl⟩
                    rw [← hd'] at ck
                    have LK : ((T.take t).map str).length ≤ 65 := by rw [List.length_map, List.length_take]; omega
                    have et : Hid ((T.take (t + 1)).map str = (T.take t).map str ++ [str d]) := Lib.hid (by
                      have e1 : T[t]? = some d := by
                        rw [ET.out, List.getElem?_reverse (by rw [← HY.out]; omega), show Q.length - 1 - t = s by rw [← HY.out]; omega, List.getElem?_eq_getElem hsY, hd']
                      rw [List.take_add_one, e1]
                      simp)
                    have sY : (s : Int) < (Y : Int) := by omega
                    obtain ⟨z, hz⟩ : ∃ z, z = (T.take t).map str := ⟨_, rfl⟩
                    rw [← hz] at hv LK et
                    clear hc hd' hsY hz
                    have hv2 := hv
                    have hB2 := hb
                    clear hv hb
                    have al := (Below.refl wr.heap.size wr).alloc (Nat.le_refl _) (.cells #[str d] 9)
                    have hv_ := hv2.keep al
                    have hB_ := hB2.trans (al.mono hB2.size)
                    have lv_ := fun g hg => (hv_.lt g hg).1
                    clear hv2 hB2 al
                    go_wp2_with (at_builtin; refine wpList_append_newX _ rfl _ _ 22 rfl w.heap.size 9 16 (str []) rfl Tryd.underlying22 infoS _ _ rfl hv_ _ 1 (str d) rfl rfl (cell_new1 _ _ _ _) (by omega) (by omega) hB_.size ?_)
                    intro v_ w5 hv6 hg_ ho_
                    have hB6 := hB_.grown hg_ hB_.size lv_
                    have s4 := ((sQ.below (w' := wr.alloc (.cells #[str d] 9)) ((Below.refl _ _).alloc (Nat.le_refl _) _))).grown hg_ AS
                    have AS4 := Aside.grow AS ho_ (fun x e => Nat.lt_of_lt_of_le (AL.out x e) (by simp))
                    clear hv_ hg_ ho_ hB_ lv_ AS
                    go_wp2_with fail
                    go_roundw
                    case rel => exact ⟨s, t + 1, by go_num, by omega, by rw [et.out]; exact hv6, AS4, s4, hB6⟩
                    case measure => simp [intOf]
    · rw [if_neg (fun h => hi1 h.2)]
      have g1 : decide ((n : Int) < (m : Int)) = true := decide_eq_true (by omega)
      have g1' : (n : Int) < (m : Int) := by omega
      have g1n : decide (n < m) = true := decide_eq_true (by omega)
      have g1n' : n < m := by omega
      clear hn' hs hl
      go_enter Tryd.func36, Tryd.ntmps36
      go_wp2_with fail
      go_ret2
      exact ⟨_, rfl, .nil _ _ _, .refl _ _⟩
  · rw [if_neg (fun h => hi0 h.1)]
    have g0 : decide (m0 < 0) = true := decide_eq_true (by omega)
    have g0' : m0 < 0 := by omega
    clear hn' hs hl
    go_enter Tryd.func36, Tryd.ntmps36
    go_wp2_with fail
    go_ret2
    exact ⟨_, rfl, .nil _ _ _, .refl _ _⟩
end Go.Proofs.YtmbifokiebjmmaaDoor
/- Layer 36's laws: the calls on lists with marks, and on answers, in the laws' words. -/
set_option linter.unusedVariables false
set_option linter.unusedSimpArgs false
namespace Go.Proofs.YtmbifokiebjmmaaDoor
open Go.RowKit Go.Sg
/-- The leaves' hashes. -/
def hsh (p : List (List Int)) : List (List Int) := p.map leafD
theorem hsh_len (p : List (List Int)) : (hsh p).length = p.length := List.length_map _
theorem hsh_dig (p : List (List Int)) : ∀ d ∈ hsh p, Dig d := fun d hd => by
  obtain ⟨x, _, rfl⟩ := List.mem_map.1 hd
  exact shaD_dig _
theorem hsh_u8 (p : List (List Int)) : ∀ d ∈ hsh p, U8 d := fun d hd => (hsh_dig p d hd).2
theorem leavesOf_mparts (G : Nat → Nat) (p : List (List Int)) : leavesOf (mparts G p) = hsh p := by
  unfold leavesOf hsh
  rw [show (mparts G p).map (fun q => leafD q.xs) = ((mparts G p).map (·.xs)).map leafD by rw [List.map_map]; rfl, mparts_xs]
theorem mparts_le {G : Nat → Nat} {p : List (List Int)} (hl : ∀ s ∈ p, s.length ≤ 1048576) : ∀ q ∈ mparts G p, q.xs.length ≤ 140737488355328 := fun q hq => by
  have : q.xs ∈ p := by
    have h : q.xs ∈ (mparts G p).map (·.xs) := List.mem_map.2 ⟨q, hq, rfl⟩
    rw [mparts_xs] at h
    exact h
  have := hl _ this
  omega
/-- What is there stays below block B. -/
def TellB (B : Nat) (b : Bool) (w : World) (e : Ending) (w' : World) : Prop := e = .returned (.bool b) ∧ Below B w w'
section
variable {bb n : Nat} {W : World} {L : Option Addr} {cL : Nat} {G : Nat → Nat} {p : List (List Int)}
theorem rootM (hn : n = p.length) (hm : MkW bb W (.slice L n cL) G p) (hu : ∀ s ∈ p, U8 s) (hl : ∀ s ∈ p, s.length ≤ 1048576) (hz : n ≤ 1048576) (ht : ShaTabs W) : Calls Tryd.prog 12 #[.slice L n cL] W (BytesPost (rootB (hsh p)) W) := by
  subst hn
  have := Root_c L cL (mparts G p) W (hm.rows hu (fun s hs => by have := hl s hs; omega)) (by rw [mparts_len]; omega) (mparts_le hl) ht
  rwa [mparts_len, leavesOf_mparts] at this
theorem proofM (i : Int) (hn : n = p.length) (hm : MkW bb W (.slice L n cL) G p) (hu : ∀ s ∈ p, U8 s) (hl : ∀ s ∈ p, s.length ≤ 1048576) (hz : n ≤ 1048576) (ht : ShaTabs W) : Calls Tryd.prog 33 #[.slice L n cL, .int .i64 i] W (OutsPost (if 0 ≤ i ∧ i < (n : Int) then some (pathB (hsh p) i.toNat) else none) W) := by
  subst hn
  have := Proof_c L cL (mparts G p) i W (hm.rows hu (fun s hs => by have := hl s hs; omega)) (by rw [mparts_len]; omega) (mparts_le hl) ht
  rwa [mparts_len, leavesOf_mparts] at this
theorem growthM (i : Int) (hn : n = p.length) (hm : MkW bb W (.slice L n cL) G p) (hu : ∀ s ∈ p, U8 s) (hl : ∀ s ∈ p, s.length ≤ 1048576) (hz : n ≤ 1048576) (ht : ShaTabs W) : Calls Tryd.prog 37 #[.slice L n cL, .int .i64 i] W (OutsPost (if 0 ≤ i ∧ i ≤ (n : Int) then some (growB (hsh p) i.toNat) else none) W) := by
  subst hn
  have := Growth_c L cL (mparts G p) i W (hm.rows hu (fun s hs => by have := hl s hs; omega)) (by rw [mparts_len]; omega) (mparts_le hl) ht
  rwa [mparts_len, leavesOf_mparts] at this
theorem keptM {M : Option Addr} {cM : Nat} (hn : n = p.length) (hm : MkW bb W (.slice L n cL) G p) (hs : Ss W M cM p) (hl : ∀ s ∈ p, s.length ≤ 1048576) (hz : n ≤ 1048576) : Calls Tryd.prog 15 #[.slice L n cL, .slice M n cM] W (TellPost true W) := by
  subst hn
  refine (kept_c bb L M cL cM G p W hm hs (fun s hs => by have := hl s hs; omega) (by omega)).mono ?_
  rintro e w' ⟨rfl, nd, rfl⟩
  exact ⟨rfl, below_drewN (.refl _ _) _⟩
theorem leafM {j : Nat} {s : List Int} (hj : j < p.length) (hs : p.getD j [] = s) (hm : MkW bb W (.slice L n cL) G p) (hu : ∀ s ∈ p, U8 s) (hl : ∀ s ∈ p, s.length ≤ 1048576) (ht : ShaTabs W) : Calls Tryd.prog 17 #[.slice (some ⟨G j, 0, none⟩) s.length (s.length + 70)] W (BytesPost (leafD s) W) := by
  have hmem : s ∈ p := by rw [← hs]; exact getD_mem hj
  have := (hm.blk j hj).2
  rw [hs] at this
  have ss := this.sl s.length (s.length + 70) (by omega) (by have := hl s hmem; omega)
  rw [List.take_left] at ss
  exact Leaf_c _ _ s W ss (hu s hmem) (by have := hl s hmem; omega) ht
/-- Lists that lie below block B stay while only what lies above turns. -/
theorem MkL.far {B B0 : Nat} {E T : TypeId} {w w' : World} {l : Value} {G : Nat → Nat} {ss : List (List Int)} (h : MkL B0 E T w l G ss) (hb : Below B w w') (h1 : ∀ c, l.ownBlock = some c → c < B) (h2 : ∀ j, j < ss.length → G j < B) : MkL B0 E T w' l G ss :=
  h.by_blocks (fun c hc => hb.block c (h1 c hc)) (fun j hj => hb.block _ (h2 j hj))
end
theorem OwnLists.sl {ds : List (List Int)} {B : Nat} {w : World} {v : Value} (h : OwnLists ds B w v) : ∃ a c, v = .slice a ds.length c := by
  obtain ⟨V, A, hl, _⟩ := h
  exact hl.sl
theorem OwnLists.rows {ds : List (List Int)} {B : Nat} {w : World} {a : Option Addr} {c n : Nat} (hn : n = ds.length) (h : OwnLists ds B w (.slice a n c)) (hd : ∀ d ∈ ds, Dig d) : ∃ ps : List Part, ps.length = n ∧ Rows_ w a ps ∧ ps.map (·.xs) = ds := by
  subst hn
  obtain ⟨V, A, hl, ha⟩ := h
  obtain ⟨ps, h1, h2, h3⟩ := Lists.rows hl (fun j hj => by rw [ha j hj]; exact (hd _ (getD_mem hj)).2)
  exact ⟨ps, h1, h2, by rw [h3]; exact range_getD rfl ha⟩
theorem apartO {ds : List (List Int)} {B n : Nat} {w1 w : World} {a b W : Option Addr} {ca cb cW : Nat} (hn : n = ds.length) (hz : n ≤ 4194304) (dd : ∀ d ∈ ds, Dig d) (h1 : OwnLists ds B w1 (.slice a n ca)) (hb : Below w1.heap.size w1 w) (h2 : OwnLists ds w1.heap.size w (.slice b n cb)) (hB : B ≤ w1.heap.size) (sw : Ss w W cW ds) :
    Calls Tryd.prog 16 #[.slice a n ca, .slice b n cb, .slice W n cW] w (TellB B true w) := by
  subst hn
  obtain ⟨VA, AA, hLa, ea⟩ := h1
  obtain ⟨VB, AB, hLb, eb⟩ := h2
  refine apart_c B ds.length a b ca cb VA VB AA AB ds W cW w hz rfl dd (hLa.keep hb) (Lists.mono' hLb hB) ea eb (fun i j hi hj g hg e => ?_) (fun g hg e => ?_) (Nat.le_trans hB hb.size) sw
  · have h1 := ((hLa.fam.new i hi).lt g hg).2
    have h2 := ((hLb.fam.new j hj).lt g e).1
    omega
  · have h1 := (hLa.row.lt g hg).2
    have h2 := (hLb.row.lt g e).1
    omega
theorem path_dig : ∀ (h : Nat) (l : List (List Int)) (i : Nat), (∀ d ∈ l, Dig d) → ∀ d ∈ pathH pairD (shaD []) h l i, Dig d
  | 0, l, i, hl, d, hd => by simp [pathH] at hd
  | h + 1, l, i, hl, d, hd => by
    rw [pathH] at hd
    split at hd
    · exact path_dig h l i hl d hd
    · split at hd
      · rcases List.mem_append.1 hd with hd | hd
        · exact path_dig h _ _ (fun x hx => hl x (List.mem_of_mem_take hx)) d hd
        · simp at hd; rw [hd]; exact root_dig _ _ _ (fun x hx => hl x (List.mem_of_mem_drop hx))
      · rcases List.mem_append.1 hd with hd | hd
        · exact path_dig h _ _ (fun x hx => hl x (List.mem_of_mem_drop hx)) d hd
        · simp at hd; rw [hd]; exact root_dig _ _ _ (fun x hx => hl x (List.mem_of_mem_take hx))
theorem pathB_dig {l : List (List Int)} (hl : ∀ d ∈ l, Dig d) (i : Nat) : ∀ d ∈ pathB l i, Dig d := path_dig _ _ _ hl
theorem growB_dig {l : List (List Int)} (hl : ∀ d ∈ l, Dig d) (i : Nat) : ∀ d ∈ growB l i, Dig d := by
  unfold growB
  split
  · simp
  · exact part_dig _ _ _ _ hl
theorem checkB {l : List (List Int)} (hl : ∀ d ∈ l, Dig d) {i : Nat} {d : List Int} (hi : l[i]? = some d) (hz : l.length ≤ 1048576) : checkP (rootB l) (l.length : Int) (i : Int) d (pathB l i) := by
  obtain ⟨h1, h2⟩ := List.getElem?_eq_some_iff.1 hi
  have h1' : i < l.length := h1
  refine ⟨⟨(root_dig _ _ _ hl).1, by rw [← h2]; exact (hl _ (List.getElem_mem h1')).1⟩, fun x hx => (pathB_dig hl i x hx).1, by omega, by omega, ?_⟩
  rw [Int.toNat_natCast, Int.toNat_natCast]
  exact fold_path 63 l i d (by omega) hi
theorem growB_shows {l : List (List Int)} (hl : ∀ d ∈ l, Dig d) {m : Nat} (hm : m ≤ l.length) (hz : l.length ≤ 1048576) : growP (rootB (l.take m)) (m : Int) (rootB l) (l.length : Int) (growB l m) := by
  have hl2 : ∀ d ∈ l.take m, Dig d := fun d hd => hl d (List.mem_of_mem_take hd)
  refine ⟨⟨(root_dig _ _ _ hl2).1, (root_dig _ _ _ hl).1⟩, fun x hx => (growB_dig hl m x hx).1, by omega, by omega, ?_⟩
  by_cases h0 : m = 0
  · subst h0
    rw [if_pos (show ((0 : Nat) : Int) = 0 from rfl)]
    have e : rootB [] = shaD [] := rootH_any (h' := 0) (by simp) (by simp)
    refine ⟨rfl, by rw [List.take_zero]; exact e, ?_⟩
    by_cases hp : 0 < l.length
    · exact .inl (by omega)
    · have : l = [] := List.length_eq_zero_iff.1 (by omega)
      subst this
      exact .inr (by simp)
  · rw [if_neg (by omega), Int.toNat_natCast, Int.toNat_natCast]
    unfold growB
    rw [if_neg h0]
    exact both_part 63 l m true _ (by omega) (by omega) hm (fun _ => rfl)
end Go.Proofs.YtmbifokiebjmmaaDoor
/- signetlaw36: asked, shown by their contracts. (Printed by gen_logpa.py.) -/
set_option linter.unusedVariables false
set_option linter.unusedSimpArgs false
namespace Go.Proofs.YtmbifokiebjmmaaDoor
open Go.RowKit Go.Sg
/-- A step on a log, as it lies in memory. -/
def opV (k : Int) (e : List Int) (m n : Int) : Value := .agg #[.int .i64 k, str e, .int .i64 m, .int .i64 n]
/-- What a log tells to Proof(N, M), or to Growth(M, N). -/
def askR (pr : Bool) (hs : List (List Int)) (m n : Int) : Option (List (List Int)) :=
  if pr = true then (if (0 ≤ n ∧ n ≤ (hs.length : Int)) ∧ 0 ≤ m ∧ m < n then some (pathB (hs.take n.toNat) m.toNat) else none)
  else (if (0 ≤ n ∧ n ≤ (hs.length : Int)) ∧ 0 ≤ m ∧ m ≤ n then some (growB (hs.take n.toNat) m.toNat) else none)
set_option maxHeartbeats 4000000 in
set_option maxRecDepth 20000 in
theorem asked_c (B g : Nat) (hs : List (List Int)) (k : Int) (e : List Int) (m n : Int) (pr : Bool) (hk : pr = true ↔ k = 4) (w : World) (hl : LogAt B w g hs) (hz : hs.length ≤ 1048576) (ht : ShaTabs w) :
    Calls Tryd.prog 55 #[.pointer (some ⟨g, 0, none⟩), opV k e m n] w (OutsPost (askR pr hs m n) w) := by
  have al := (Below.refl w.heap.size w).alloc (Nat.le_refl _) (.cells #[.int .i64 k, str e, .int .i64 m, .int .i64 n] 47)
  have hl2 := hl.keep al
  unfold opV
  cases pr with
  | true =>
    obtain rfl : k = 4 := hk.1 rfl
    have c1 := LogProof_c B g hs n m _ hl2 hz (ht.below al)
    have e1 : askR true hs m n = (if (0 ≤ n ∧ n ≤ (hs.length : Int)) ∧ 0 ≤ m ∧ m < n then some (pathB (hs.take n.toNat) m.toNat) else none) := rfl
    rw [← e1] at c1
    unfold OutsPost at c1 ⊢
    obtain ⟨R, hR⟩ : ∃ r, r = askR true hs m n := ⟨_, rfl⟩
    rw [← hR] at c1 ⊢
    obtain ⟨c, hc⟩ : ∃ c : Int, c = if R = none then 250 else 0 := ⟨_, rfl⟩
    rw [← hc] at c1 ⊢
    clear e1 hk hl hl2 hR hc
    go_enter Tryd.func55, Tryd.ntmps55
    go_wp2_with fail
    refine c1.mono ?_; rintro e_ w2 ⟨v, rfl, hv, hb⟩
    go_wp2_with fail
    go_ret2
    exact ⟨v, rfl, hv.mono al.size, al.trans (hb.mono al.size)⟩
  | false =>
    have k4 : (k == 4) = false := by
      cases h : k == 4
      · rfl
      · exact absurd (hk.2 (by simpa using h)) (by simp)
    have c1 := LogGrowth_c B g hs n m _ hl2 hz (ht.below al)
    have e1 : askR false hs m n = (if (0 ≤ n ∧ n ≤ (hs.length : Int)) ∧ 0 ≤ m ∧ m ≤ n then some (growB (hs.take n.toNat) m.toNat) else none) := rfl
    rw [← e1] at c1
    unfold OutsPost at c1 ⊢
    obtain ⟨R, hR⟩ : ∃ r, r = askR false hs m n := ⟨_, rfl⟩
    rw [← hR] at c1 ⊢
    obtain ⟨c, hc⟩ : ∃ c : Int, c = if R = none then 250 else 0 := ⟨_, rfl⟩
    rw [← hc] at c1 ⊢
    clear e1 hk hl hl2 hR hc
    go_enter Tryd.func55, Tryd.ntmps55
    go_wp2_with fail
    refine c1.mono ?_; rintro e_ w2 ⟨v, rfl, hv, hb⟩
    go_wp2_with fail
    go_ret2
    exact ⟨v, rfl, hv.mono al.size, al.trans (hb.mono al.size)⟩
theorem askR_dig {pr : Bool} {hs : List (List Int)} {m n : Int} (hd : ∀ d ∈ hs, Dig d) : ∀ d ∈ (askR pr hs m n).getD [], Dig d := by
  have h2 : ∀ d ∈ hs.take n.toNat, Dig d := fun d h => hd d (List.mem_of_mem_take h)
  unfold askR
  split <;> split
  · exact pathB_dig h2 _
  · simp
  · exact growB_dig h2 _
  · simp
theorem askR_le {pr : Bool} {hs : List (List Int)} {m n : Int} : ((askR pr hs m n).getD []).length ≤ 64 := by
  unfold askR
  split <;> split
  · have := pathB_le (hs.take n.toNat) m.toNat; simp only [Option.getD_some]; omega
  · simp
  · exact growB_le _ _
  · simp
set_option maxHeartbeats 16000000 in
set_option maxRecDepth 100000 in
theorem shown_c (B g : Nat) (hs : List (List Int)) (aD : Option Addr) (cD : Nat) (k : Int) (e : List Int) (m n : Int) (pr : Bool) (hk : pr = true ↔ k = 4) (w : World) (hl : LogAt B w g hs) (sd : Ss w aD cD hs) (hd : ∀ d ∈ hs, Dig d) (hz : hs.length ≤ 1048576) (ht : ShaTabs w) (hr : RefTabs w) :
    Calls Tryd.prog 31 #[.pointer (some ⟨g, 0, none⟩), .slice aD hs.length cD, opV k e m n] w (TellPost true w) := by
  have al := (Below.refl w.heap.size w).alloc (Nat.le_refl _) (.cells #[.int .i64 k, str e, .int .i64 m, .int .i64 n] 47)
  have cl_ : ∀ (j : Nat) (v : Value), [Value.int .i64 k, str e, .int .i64 m, .int .i64 n][j]? = some v → ∀ W, Below (w.heap.size + 1) (w.alloc (.cells #[.int .i64 k, str e, .int .i64 m, .int .i64 n] 47)) W → W.cell? ⟨w.heap.size, j, none⟩ = some v := fun j v hj W hb => by
    rw [World.cell?_of_block (a := ⟨w.heap.size, j, none⟩) (hb.block w.heap.size (by omega)), cell_of_row (w.alloc (.cells #[.int .i64 k, str e, .int .i64 m, .int .i64 n] 47)) w.heap.size j _ _ (0, 0) (Go.heap_alloc_new w _)]
    simpa using hj
  have asz : (w.alloc (.cells #[.int .i64 k, str e, .int .i64 m, .int .i64 n] 47)).heap.size = w.heap.size + 1 := by simp
  have l0_ := cl_ 0 _ rfl
  have l1_ := cl_ 1 _ rfl
  have l2_ := cl_ 2 _ rfl
  have l3_ := cl_ 3 _ rfl
  clear cl_
  have as_ := fun (W : World) (hb : Below w.heap.size w W) => asked_c B g hs k e m n pr hk W (hl.keep hb) hz (ht.below hb)
  obtain ⟨R, hR⟩ : ∃ r, r = askR pr hs m n := ⟨_, rfl⟩
  have RD : ∀ d ∈ R.getD [], Dig d := by rw [hR]; exact askR_dig hd
  have R64 : (R.getD []).length ≤ 64 := by rw [hR]; exact askR_le
  rw [← hR] at as_
  obtain ⟨c, hc⟩ : ∃ c : Int, c = if R = none then 250 else 0 := ⟨_, rfl⟩
  unfold OutsPost at as_
  rw [← hc] at as_
  obtain ⟨X, hX⟩ : ∃ x, x = R.getD [] := ⟨_, rfl⟩
  rw [← hX] at as_ RD R64
  obtain ⟨z, hzz⟩ : ∃ z, z = hs.length := ⟨_, rfl⟩
  have HZ := Lib.hid hzz
  obtain ⟨q, hq⟩ : ∃ q, q = X.length := ⟨_, rfl⟩
  have HQ := Lib.hid hq
  have q64 : q ≤ 64 := by omega
  have q4 : q ≤ 4194304 := by omega
  have zle : z ≤ 1048576 := by omega
  rw [← hzz]
  have c1 := as_ _ al
  have GR := Lib.hid (And.intro hR (And.intro hc (And.intro hX hk)))
  have XD := Lib.hid RD
  clear hR hc hX hzz hq R64 RD hk
  unfold opV at *
  go_enter Tryd.func31, Tryd.ntmps31
  go_wp2_with fail
  refine c1.mono ?_; rintro e_ w2 ⟨v2, rfl, o2, hb2⟩
  have hA2 := al.trans (hb2.mono al.size)
  have c2 := as_ w2 hA2
  obtain ⟨a2, k2, rfl⟩ := o2.sl
  rw [← HQ.out] at o2 ⊢
  have hb2' := hb2
  rw [asz] at hb2'
  have l0 := l0_ w2 hb2'
  have l1 := l1_ w2 hb2'
  have l2 := l2_ w2 hb2'
  have l3 := l3_ w2 hb2'
  have LD2 := Lib.hid hb2'
  have s21 : w.heap.size + 1 ≤ w2.heap.size := by have := hb2'.size; rw [asz] at this; exact this
  clear c1 hb2 hb2' asz
  go_wp2_with fail
  refine c2.mono ?_; rintro e_ w3 ⟨v3, rfl, o3, hb3⟩
  obtain ⟨a3, k3, rfl⟩ := o3.sl
  rw [← HQ.out] at o3 ⊢
  have LD3 := LD2.out.trans (hb3.mono s21)
  have hA3 := hA2.trans (hb3.mono hA2.size)
  have m0 := l0_ w3 LD3
  have m1 := l1_ w3 LD3
  have m2 := l2_ w3 LD3
  have m3 := l3_ w3 LD3
  have BB := Lib.hid hb3
  have hl3 := hl.keep hA3
  have sd3 := sd.below hA3
  have o2' := Lib.hid (o2.mono al.size)
  have hz3 : w.heap.size ≤ w2.heap.size := hA2.size
  clear c2 hb3 l0 l1 l2 l3 LD2 LD3 l0_ l1_ l2_ l3_ as_ hA2 o2
  by_cases h0 : 0 ≤ n
  · have f0 : decide (n < 0) = false := decide_eq_false (by omega)
    have f0' : ¬ n < 0 := by omega
    obtain ⟨N, rfl⟩ : ∃ N : Nat, n = (N : Int) := ⟨n.toNat, by omega⟩
    by_cases h1 : (N : Int) ≤ (z : Int)
    · have f1 : decide ((z : Int) < (N : Int)) = false := decide_eq_false (by omega)
      have f1' : decide (z < N) = false := decide_eq_false (by omega)
      have f1'' : ¬ z < N := by omega
      cases pr with
      | true =>
        obtain rfl : k = 4 := GR.out.2.2.2.1 rfl
        have k4 : ((4 : Int) == 4) = true := rfl
        have eR : (if 0 ≤ m ∧ m < ((N : Nat) : Int) then some (pathB (hs.take N) m.toNat) else none) = R := by
          rw [GR.out.1]
          unfold askR
          rw [if_pos (show true = true from rfl), ← HZ.out, Int.toNat_natCast]
          by_cases h : 0 ≤ m ∧ m < ((N : Nat) : Int)
          · rw [if_pos h, if_pos ⟨⟨h0, h1⟩, h⟩]
          · rw [if_neg h, if_neg (fun x => h x.2)]
        have lt : (hs.take N).length = N := by rw [List.length_take, ← HZ.out]; omega
        have wantc := fun (W : World) (hb : Below w.heap.size w W) => rProof_c aD cD (hs.take N) m W ((sd.below hb).take N) (fun s h => hd s (List.mem_of_mem_take h)) (by rw [lt]; omega) (hr.below hb)
        rw [lt, eR] at wantc
        unfold StrsOrPost at wantc
        rw [← GR.out.2.1, ← GR.out.2.2.1] at wantc
        have zc : z ≤ cD := by have := sd.le; have := HZ.out; omega
        have lcut := fun W => cutS_to W aD z cD N (by omega)
        have cce : (c == c) = true := by simp
        clear eR lt zc
        go_wp2_with fail
        refine wp_region_held_drew (S := fun W => W.cell? ⟨w.heap.size, 2, none⟩ = some (.int .i64 m) ∧ W.cell? ⟨w.heap.size, 3, none⟩ = some (.int .i64 (N : Int))) (by kernel_rfl) (⟨m2, m3⟩) (fun hS => ?_)
        refine wpAnyH_take (i := 0) (v := ?_) rfl (by kernel_rfl) (by kernel_rfl) (by kernel_rfl) (fun _ _ _ h => h) (Or.inl ⟨by rfl, ?_⟩) hS ?_
        rotate_left
        · intro w _; go_simp; try with_reducible rfl
        simp only [List.getElem_toArray, List.getElem_cons_zero, List.getElem_cons_succ, Act.put, List.setIfInBounds_toArray, List.set_cons_zero, List.set_cons_succ]
        refine wpAnyH_take (i := 1) (v := ?_) rfl (by kernel_rfl) (by kernel_rfl) (by kernel_rfl) (fun _ _ _ h => h) (Or.inl ⟨by rfl, ?_⟩) hS ?_
        rotate_left
        · intro w _; go_simp; try with_reducible rfl
        simp only [List.getElem_toArray, List.getElem_cons_zero, List.getElem_cons_succ, Act.put, List.setIfInBounds_toArray, List.set_cons_zero, List.set_cons_succ]
        refine wpAnyH_take (i := 2) (v := ?_) rfl (by kernel_rfl) (by kernel_rfl) (by kernel_rfl) (fun _ _ _ h => h) (Or.inl ⟨by rfl, ?_⟩) hS ?_
        rotate_left
        · intro W_ hW_; obtain ⟨c1_, c2_⟩ := hW_; go_simp; try with_reducible rfl
        simp only [List.getElem_toArray, List.getElem_cons_zero, List.getElem_cons_succ, Act.put, List.setIfInBounds_toArray, List.set_cons_zero, List.set_cons_succ]
        refine wpAnyH_take (i := 3) (v := ?_) rfl (by kernel_rfl) (by kernel_rfl) (by kernel_rfl) (fun _ _ _ h => h) (Or.inl ⟨by rfl, ?_⟩) hS ?_
        rotate_left
        · intro w _; go_simp; try with_reducible rfl
        simp only [List.getElem_toArray, List.getElem_cons_zero, List.getElem_cons_succ, Act.put, List.setIfInBounds_toArray, List.set_cons_zero, List.set_cons_succ]
        refine wpAnyH_take (i := 4) (v := ?_) rfl (by kernel_rfl) (by kernel_rfl) (by kernel_rfl) (fun _ _ _ h => h) (Or.inl ⟨by rfl, ?_⟩) hS ?_
        rotate_left
        · intro w _; go_simp; try with_reducible rfl
        simp only [List.getElem_toArray, List.getElem_cons_zero, List.getElem_cons_succ, Act.put, List.setIfInBounds_toArray, List.set_cons_zero, List.set_cons_succ]
        refine wpAnyH_take (i := 5) (v := ?_) rfl (by kernel_rfl) (by kernel_rfl) (by kernel_rfl) (fun _ _ _ h => h) (Or.inl ⟨by rfl, ?_⟩) hS ?_
        rotate_left
        · intro W_ hW_; obtain ⟨c1_, c2_⟩ := hW_; go_simp; try with_reducible rfl
        simp only [List.getElem_toArray, List.getElem_cons_zero, List.getElem_cons_succ, Act.put, List.setIfInBounds_toArray, List.set_cons_zero, List.set_cons_succ]
        obtain ⟨W, hW⟩ : ∃ W, W = World.drew w3 := ⟨_, rfl⟩
        have hAW : Below w.heap.size w W := by rw [hW]; exact below_drewN hA3 1
        have o3W : OwnLists X w2.heap.size W (.slice a3 q k3) := by rw [hW]; exact o3.keep (below_drewN (.refl _ _) 1)
        have BW : Hid (Below w2.heap.size w2 W) := Lib.hid (by rw [hW]; exact below_drewN BB.out 1)
        have glW : w.heap.size < W.heap.size := by rw [hW]; exact Nat.lt_of_lt_of_le s21 BB.out.size
        rw [← hW] at hS ⊢
        have c3 := wantc W hAW
        clear hW hA3 o3 BB hl3 sd3 m0 m1 m2 m3
        refine wpAnyH_ready (rs := [6]) (by kernel_rfl) (by simp) ?_
        refine AllReadyH.cons rfl (fun K hK => ?_) AllReadyH.nil
        rw [if_pos (by rfl)]
        simp only [List.getElem_toArray, List.getElem_cons_zero, List.getElem_cons_succ]
        go_simp
        refine c3.mono ?_; rintro e_ w4 ⟨v4, rfl, hv4, hb4⟩
        dsimp only
        refine hK.out _ _ ⟨by rw [World.cell?_of_block (w := W) (hb4.block _ glW)]; exact hS.1, by rw [World.cell?_of_block (w := W) (hb4.block _ glW)]; exact hS.2⟩ (fun hS => ?_)
        refine wpAnyH_take (i := 7) (v := ?_) rfl (by kernel_rfl) (by kernel_rfl) (by kernel_rfl) (fun _ _ _ h => h) (Or.inl ⟨by rfl, ?_⟩) hS ?_
        rotate_left
        · intro w _; go_simp; try with_reducible rfl
        simp only [List.getElem_toArray, List.getElem_cons_zero, List.getElem_cons_succ, Act.put, List.setIfInBounds_toArray, List.set_cons_zero, List.set_cons_succ]
        refine wpAnyH_take (i := 8) (v := ?_) rfl (by kernel_rfl) (by kernel_rfl) (by kernel_rfl) (fun _ _ _ h => h) (Or.inl ⟨by rfl, ?_⟩) hS ?_
        rotate_left
        · intro w _; go_simp; try with_reducible rfl
        simp only [List.getElem_toArray, List.getElem_cons_zero, List.getElem_cons_succ, Act.put, List.setIfInBounds_toArray, List.set_cons_zero, List.set_cons_succ]
        refine wpAnyH_take (i := 9) (v := ?_) rfl (by kernel_rfl) (by kernel_rfl) (by kernel_rfl) (fun _ _ _ h => h) (Or.inl ⟨by rfl, ?_⟩) hS ?_
        rotate_left
        · intro w _; go_simp; try with_reducible rfl
        simp only [List.getElem_toArray, List.getElem_cons_zero, List.getElem_cons_succ, Act.put, List.setIfInBounds_toArray, List.set_cons_zero, List.set_cons_succ]
        refine wpAnyH_take (i := 10) (v := ?_) rfl (by kernel_rfl) (by kernel_rfl) (by kernel_rfl) (fun _ _ _ h => h) (Or.inl ⟨by rfl, ?_⟩) hS ?_
        rotate_left
        · intro w _; go_simp; try with_reducible rfl
        simp only [List.getElem_toArray, List.getElem_cons_zero, List.getElem_cons_succ, Act.put, List.setIfInBounds_toArray, List.set_cons_zero, List.set_cons_succ]
        refine wpAnyH_take (i := 11) (v := ?_) rfl (by kernel_rfl) (by kernel_rfl) (by kernel_rfl) (fun _ _ _ h => h) (Or.inl ⟨by rfl, ?_⟩) hS ?_
        rotate_left
        · intro w _; go_simp; try with_reducible rfl
        simp only [List.getElem_toArray, List.getElem_cons_zero, List.getElem_cons_succ, Act.put, List.setIfInBounds_toArray, List.set_cons_zero, List.set_cons_succ]
        refine wpAnyH_done (by kernel_rfl) ?_ _
        obtain ⟨a4, k4_, rfl, s4⟩ := hv4.ss (fun s h => (XD.out s h).2)
        rw [← HQ.out]
        have hA4 := hAW.trans (hb4.mono hAW.size)
        have ap := apartO HQ.out q4 XD.out o2'.out (BW.out.trans (hb4.mono BW.out.size)) (o3W.keep hb4) hz3 s4
        unfold TellB at ap
        clear c3 hS o3W BW hb4 hv4 s4 wantc lcut hAW
        go_wp2_with fail
        refine ap.mono ?_; rintro e_ w5 ⟨rfl, hb5⟩
        clear ap
        go_wp2_with fail
        go_ret
        exact ⟨rfl, hA4.trans hb5⟩
      | false =>
        have k4 : (k == 4) = false := by
          cases h : k == 4
          · rfl
          · exact absurd (GR.out.2.2.2.2 (by simpa using h)) (by simp)
        have eR : (if 0 ≤ m ∧ m ≤ ((N : Nat) : Int) then some (growB (hs.take N) m.toNat) else none) = R := by
          rw [GR.out.1]
          unfold askR
          rw [if_neg (show ¬ false = true by simp), ← HZ.out, Int.toNat_natCast]
          by_cases h : 0 ≤ m ∧ m ≤ ((N : Nat) : Int)
          · rw [if_pos h, if_pos ⟨⟨h0, h1⟩, h⟩]
          · rw [if_neg h, if_neg (fun x => h x.2)]
        have lt : (hs.take N).length = N := by rw [List.length_take, ← HZ.out]; omega
        have wantc := fun (W : World) (hb : Below w.heap.size w W) => rGrowth_c aD cD (hs.take N) m W ((sd.below hb).take N) (fun s h => hd s (List.mem_of_mem_take h)) (by rw [lt]; omega) (hr.below hb)
        rw [lt, eR] at wantc
        unfold StrsOrPost at wantc
        rw [← GR.out.2.1, ← GR.out.2.2.1] at wantc
        have zc : z ≤ cD := by have := sd.le; have := HZ.out; omega
        have lcut := fun W => cutS_to W aD z cD N (by omega)
        have cce : (c == c) = true := by simp
        clear eR lt zc
        go_wp2_with fail
        refine wp_region_held_drew (S := fun W => W.cell? ⟨w.heap.size, 2, none⟩ = some (.int .i64 m) ∧ W.cell? ⟨w.heap.size, 3, none⟩ = some (.int .i64 (N : Int))) (by kernel_rfl) (⟨m2, m3⟩) (fun hS => ?_)
        refine wpAnyH_take (i := 0) (v := ?_) rfl (by kernel_rfl) (by kernel_rfl) (by kernel_rfl) (fun _ _ _ h => h) (Or.inl ⟨by rfl, ?_⟩) hS ?_
        rotate_left
        · intro w _; go_simp; try with_reducible rfl
        simp only [List.getElem_toArray, List.getElem_cons_zero, List.getElem_cons_succ, Act.put, List.setIfInBounds_toArray, List.set_cons_zero, List.set_cons_succ]
        refine wpAnyH_take (i := 1) (v := ?_) rfl (by kernel_rfl) (by kernel_rfl) (by kernel_rfl) (fun _ _ _ h => h) (Or.inl ⟨by rfl, ?_⟩) hS ?_
        rotate_left
        · intro w _; go_simp; try with_reducible rfl
        simp only [List.getElem_toArray, List.getElem_cons_zero, List.getElem_cons_succ, Act.put, List.setIfInBounds_toArray, List.set_cons_zero, List.set_cons_succ]
        refine wpAnyH_take (i := 2) (v := ?_) rfl (by kernel_rfl) (by kernel_rfl) (by kernel_rfl) (fun _ _ _ h => h) (Or.inl ⟨by rfl, ?_⟩) hS ?_
        rotate_left
        · intro W_ hW_; obtain ⟨c1_, c2_⟩ := hW_; go_simp; try with_reducible rfl
        simp only [List.getElem_toArray, List.getElem_cons_zero, List.getElem_cons_succ, Act.put, List.setIfInBounds_toArray, List.set_cons_zero, List.set_cons_succ]
        refine wpAnyH_take (i := 3) (v := ?_) rfl (by kernel_rfl) (by kernel_rfl) (by kernel_rfl) (fun _ _ _ h => h) (Or.inl ⟨by rfl, ?_⟩) hS ?_
        rotate_left
        · intro w _; go_simp; try with_reducible rfl
        simp only [List.getElem_toArray, List.getElem_cons_zero, List.getElem_cons_succ, Act.put, List.setIfInBounds_toArray, List.set_cons_zero, List.set_cons_succ]
        refine wpAnyH_take (i := 4) (v := ?_) rfl (by kernel_rfl) (by kernel_rfl) (by kernel_rfl) (fun _ _ _ h => h) (Or.inl ⟨by rfl, ?_⟩) hS ?_
        rotate_left
        · intro w _; go_simp; try with_reducible rfl
        simp only [List.getElem_toArray, List.getElem_cons_zero, List.getElem_cons_succ, Act.put, List.setIfInBounds_toArray, List.set_cons_zero, List.set_cons_succ]
        refine wpAnyH_take (i := 5) (v := ?_) rfl (by kernel_rfl) (by kernel_rfl) (by kernel_rfl) (fun _ _ _ h => h) (Or.inl ⟨by rfl, ?_⟩) hS ?_
        rotate_left
        · intro W_ hW_; obtain ⟨c1_, c2_⟩ := hW_; go_simp; try with_reducible rfl
        simp only [List.getElem_toArray, List.getElem_cons_zero, List.getElem_cons_succ, Act.put, List.setIfInBounds_toArray, List.set_cons_zero, List.set_cons_succ]
        obtain ⟨W, hW⟩ : ∃ W, W = World.drew w3 := ⟨_, rfl⟩
        have hAW : Below w.heap.size w W := by rw [hW]; exact below_drewN hA3 1
        have o3W : OwnLists X w2.heap.size W (.slice a3 q k3) := by rw [hW]; exact o3.keep (below_drewN (.refl _ _) 1)
        have BW : Hid (Below w2.heap.size w2 W) := Lib.hid (by rw [hW]; exact below_drewN BB.out 1)
        have glW : w.heap.size < W.heap.size := by rw [hW]; exact Nat.lt_of_lt_of_le s21 BB.out.size
        rw [← hW] at hS ⊢
        have c3 := wantc W hAW
        clear hW hA3 o3 BB hl3 sd3 m0 m1 m2 m3
        refine wpAnyH_ready (rs := [6]) (by kernel_rfl) (by simp) ?_
        refine AllReadyH.cons rfl (fun K hK => ?_) AllReadyH.nil
        rw [if_pos (by rfl)]
        simp only [List.getElem_toArray, List.getElem_cons_zero, List.getElem_cons_succ]
        go_simp
        refine c3.mono ?_; rintro e_ w4 ⟨v4, rfl, hv4, hb4⟩
        dsimp only
        refine hK.out _ _ ⟨by rw [World.cell?_of_block (w := W) (hb4.block _ glW)]; exact hS.1, by rw [World.cell?_of_block (w := W) (hb4.block _ glW)]; exact hS.2⟩ (fun hS => ?_)
        refine wpAnyH_take (i := 7) (v := ?_) rfl (by kernel_rfl) (by kernel_rfl) (by kernel_rfl) (fun _ _ _ h => h) (Or.inl ⟨by rfl, ?_⟩) hS ?_
        rotate_left
        · intro w _; go_simp; try with_reducible rfl
        simp only [List.getElem_toArray, List.getElem_cons_zero, List.getElem_cons_succ, Act.put, List.setIfInBounds_toArray, List.set_cons_zero, List.set_cons_succ]
        refine wpAnyH_take (i := 8) (v := ?_) rfl (by kernel_rfl) (by kernel_rfl) (by kernel_rfl) (fun _ _ _ h => h) (Or.inl ⟨by rfl, ?_⟩) hS ?_
        rotate_left
        · intro w _; go_simp; try with_reducible rfl
        simp only [List.getElem_toArray, List.getElem_cons_zero, List.getElem_cons_succ, Act.put, List.setIfInBounds_toArray, List.set_cons_zero, List.set_cons_succ]
        refine wpAnyH_take (i := 9) (v := ?_) rfl (by kernel_rfl) (by kernel_rfl) (by kernel_rfl) (fun _ _ _ h => h) (Or.inl ⟨by rfl, ?_⟩) hS ?_
        rotate_left
        · intro w _; go_simp; try with_reducible rfl
        simp only [List.getElem_toArray, List.getElem_cons_zero, List.getElem_cons_succ, Act.put, List.setIfInBounds_toArray, List.set_cons_zero, List.set_cons_succ]
        refine wpAnyH_take (i := 10) (v := ?_) rfl (by kernel_rfl) (by kernel_rfl) (by kernel_rfl) (fun _ _ _ h => h) (Or.inl ⟨by rfl, ?_⟩) hS ?_
        rotate_left
        · intro w _; go_simp; try with_reducible rfl
        simp only [List.getElem_toArray, List.getElem_cons_zero, List.getElem_cons_succ, Act.put, List.setIfInBounds_toArray, List.set_cons_zero, List.set_cons_succ]
        refine wpAnyH_take (i := 11) (v := ?_) rfl (by kernel_rfl) (by kernel_rfl) (by kernel_rfl) (fun _ _ _ h => h) (Or.inl ⟨by rfl, ?_⟩) hS ?_
        rotate_left
        · intro w _; go_simp; try with_reducible rfl
        simp only [List.getElem_toArray, List.getElem_cons_zero, List.getElem_cons_succ, Act.put, List.setIfInBounds_toArray, List.set_cons_zero, List.set_cons_succ]
        refine wpAnyH_done (by kernel_rfl) ?_ _
        obtain ⟨a4, k4_, rfl, s4⟩ := hv4.ss (fun s h => (XD.out s h).2)
        rw [← HQ.out]
        have hA4 := hAW.trans (hb4.mono hAW.size)
        have ap := apartO HQ.out q4 XD.out o2'.out (BW.out.trans (hb4.mono BW.out.size)) (o3W.keep hb4) hz3 s4
        unfold TellB at ap
        clear c3 hS o3W BW hb4 hv4 s4 wantc lcut hAW
        go_wp2_with fail
        refine ap.mono ?_; rintro e_ w5 ⟨rfl, hb5⟩
        clear ap
        go_wp2_with fail
        go_ret
        exact ⟨rfl, hA4.trans hb5⟩
    · have f1 : decide ((z : Int) < (N : Int)) = true := decide_eq_true (by omega)
      have f1' : decide (z < N) = true := decide_eq_true (by omega)
      have f1'' : z < N := by omega
      have eR : R = none := by
        rw [GR.out.1]
        unfold askR
        rw [← HZ.out]
        split <;> exact if_neg (fun h => by omega)
      obtain rfl : c = 250 := by rw [GR.out.2.1, eR]; rfl
      obtain rfl : q = 0 := by rw [HQ.out, GR.out.2.2.1, eR]; rfl
      clear eR
      go_wp2_with fail
      go_ret
      exact ⟨rfl, hA3⟩
  · have f0 : decide (n < 0) = true := decide_eq_true (by omega)
    have f0' : n < 0 := by omega
    have eR : R = none := by
      rw [GR.out.1]
      unfold askR
      rw [← HZ.out]
      split <;> exact if_neg (fun h => by omega)
    obtain rfl : c = 250 := by rw [GR.out.2.1, eR]; rfl
    obtain rfl : q = 0 := by rw [HQ.out, GR.out.2.2.1, eR]; rfl
    clear eR
    go_wp2_with fail
    go_ret
    exact ⟨rfl, hA3⟩
end Go.Proofs.YtmbifokiebjmmaaDoor
