/- signetlaw36: hash, clash by their contracts. -/
import Derived.Test.YtmbifokiebjmmaaDoorLogL
set_option linter.unusedVariables false
set_option linter.unusedSimpArgs false
namespace Go.Sg
open Go.RowKit
/-- A text that a fold hashes: its pair's hash. -/
def hashT (t : List Int) : List Int := if t.length = 65 then pairD ((t.drop 1).take 32) (t.drop 33) else t
theorem hashT_u8 {t : List Int} (u : U8 t) : U8 (hashT t) := by
  unfold hashT
  split
  · exact (shaD_dig _).2
  · exact u
theorem hashT_text {a b : List Int} (ha : a.length = 32) (hb : b.length = 32) : hashT (textD a b) = shaD (textD a b) := by
  unfold hashT
  rw [if_pos (by simp [textD, ha, hb])]
  unfold pairD
  congr 1
  unfold textD
  rw [List.drop_succ_cons, List.drop_zero, List.drop_succ_cons, List.take_append_drop]
end Go.Sg
namespace Go.Proofs.YtmbifokiebjmmaaDoor
open Go.RowKit Go.Sg

set_option maxHeartbeats 4000000 in
set_option maxRecDepth 20000 in
theorem hash36_c (t : List Int) (w : World) (ut : U8 t) (ht : RefTabs w) : Calls Tryd.prog 50 #[str t] w (StrPost (hashT t) w) := by
  have sz : (strOfNums t).size = t.length := strOfNums_size t
  by_cases h65 : t.length = 65
  · have g : ((t.length : Int) != 65) = false := by simp; omega
    obtain ⟨x, hx⟩ : ∃ x, x = (t.drop 1).take 32 := ⟨_, rfl⟩
    obtain ⟨y, hy⟩ : ∃ y, y = t.drop 33 := ⟨_, rfl⟩
    have c := rPair_c x y (World.drew w) (by rw [hx]; exact (ut.drop (by decide) 1).take (by decide) 32) (by rw [hy]; exact ut.drop (by decide) 33) (by rw [hx, hy]; simp; omega) (ht.below (below_drewN (.refl _ _) 1))
    have e : Hid (pairD x y = hashT t) := Lib.hid (by unfold hashT; rw [if_pos h65, hx, hy])
    have s1 : (strOfNums t).extract 1 33 = strOfNums x := by rw [str_extract, hx]
    have s2 : (strOfNums t).extract 33 t.length = strOfNums y := by rw [str_extract, hy, List.take_of_length_le (by rw [List.length_drop]; omega)]
    clear hx hy
    rw [h65] at sz s2
    clear g
    have g : ((65 : Int) != 65) = false := by decide
    go_enter Tryd.func50, Tryd.ntmps50
    go_wp2_with fail
    refine wp_region_any (by kernel_rfl) ?_
    change wpAny _ _ _ _ _ _ _ (World.drew _)
    refine wpAny_take (i := 0) (v := ?_) rfl (by kernel_rfl) (by kernel_rfl) (by kernel_rfl) (fun _ _ _ h => h) (Or.inl ⟨by rfl, ?_⟩) ?_
    rotate_left
    · intro w; go_simp; try with_reducible rfl
    refine wpAny_take (i := 1) (v := ?_) rfl (by kernel_rfl) (by kernel_rfl) (by kernel_rfl) (fun _ _ _ h => h) (Or.inl ⟨by rfl, ?_⟩) ?_
    rotate_left
    · intro w; go_simp; try with_reducible rfl
    refine wpAny_take (i := 2) (v := ?_) rfl (by kernel_rfl) (by kernel_rfl) (by kernel_rfl) (fun _ _ _ h => h) (Or.inl ⟨by rfl, ?_⟩) ?_
    rotate_left
    · intro w; go_simp; try with_reducible rfl
    refine wpAny_take (i := 3) (v := ?_) rfl (by kernel_rfl) (by kernel_rfl) (by kernel_rfl) (fun _ _ _ h => h) (Or.inl ⟨by rfl, ?_⟩) ?_
    rotate_left
    · intro w; go_simp; try with_reducible rfl
    refine wpAny_seqI [4, 5] _ _ _ (by kernel_rfl) ?_
    simp only [pickL, List.drop_succ_cons, List.drop_zero, List.take_succ_cons, List.take_zero, List.cons_append, List.nil_append]
    go_wp2_with fail
    refine c.mono ?_; rintro e_ w1 ⟨rfl, hb⟩
    go_wp2_with fail
    go_ret
    exact ⟨by rw [← e.out]; rfl, (below_drewN (.refl _ w) 1).trans hb⟩
  · have g : ((t.length : Int) != 65) = true := by simp; omega
    have e : Hid (hashT t = t) := Lib.hid (if_neg h65)
    go_enter Tryd.func50, Tryd.ntmps50
    go_wp2_with fail
    go_ret
    exact ⟨by rw [e.out]; rfl, .refl _ _⟩

def clashP (a b : List (List Int)) (n : Nat) : Prop := ∃ j, j < n ∧ a.getD j [] ≠ b.getD j [] ∧ hashT (a.getD j []) = hashT (b.getD j [])

set_option maxHeartbeats 16000000 in
set_option maxRecDepth 20000 in
theorem clash_c (A B : Option Addr) (ca cb : Nat) (a b : List (List Int)) (w : World) (sa : Ss w A ca a) (sb : Ss w B cb b) (hab : a.length = b.length) (hcl : clashP a b a.length) (ht : RefTabs w) :
    Calls Tryd.prog 23 #[.slice A a.length ca, .slice B b.length cb] w (TellPost true w) := by
  obtain ⟨n, hn⟩ : ∃ n, n = a.length := ⟨_, rfl⟩
  have HN := Lib.hid hn
  rw [← hab, ← hn]
  rw [← hn] at hcl
  have HB := Lib.hid (hn.trans hab)
  clear hn hab
  have nm : n ≤ 9223372036854775807 := by have := sa.le; have := sa.max; have := HN.out; omega
  go_enter Tryd.func23, Tryd.ntmps23
  go_wp2_with fail
  go_loopw [5] (fun t wr => ∃ k : Nat, k ≤ n ∧ t = .int .i64 (k : Int) ∧ (∀ j, j < k → ¬ (a.getD j [] ≠ b.getD j [] ∧ hashT (a.getD j []) = hashT (b.getD j []))) ∧ Below w.heap.size w wr) (fun t _ => n - (intOf t).toNat)
  case atStart => exact ⟨0, by omega, rfl, fun j hj => by omega, .refl _ _⟩
  case round =>
    obtain ⟨k, hk, rfl, hno, hb⟩ := hrel
    have HNO := Lib.hid hno
    clear hno
    by_cases hlt : k < n
    · have hd : decide ((k : Int) < (n : Int)) = true := decide_eq_true (by omega)
      have hki : (k : Int) < (n : Int) := by omega
      obtain ⟨b1, o1, rfl, hc1⟩ := (sa.below hb).at_ (by have := HN.out; omega)
      obtain ⟨b2, o2, rfl, hc2⟩ := (sb.below hb).at_ (by have := HB.out; omega)
      have c1 := hc1 k (by have := HN.out; omega)
      have c2 := hc2 k (by have := HB.out; omega)
      obtain ⟨x, hx⟩ : ∃ x, x = a[k]'(by have := HN.out; omega) := ⟨_, rfl⟩
      obtain ⟨y, hy⟩ : ∃ y, y = b[k]'(by have := HB.out; omega) := ⟨_, rfl⟩
      have ux := sa.u8 x (by rw [hx]; exact List.getElem_mem _)
      have uy := sb.u8 y (by rw [hy]; exact List.getElem_mem _)
      have ex : Hid (a.getD k [] = x) := Lib.hid (by rw [hx, List.getD_eq_getElem?_getD, List.getElem?_eq_getElem (by have := HN.out; omega)]; rfl)
      have ey : Hid (b.getD k [] = y) := Lib.hid (by rw [hy, List.getD_eq_getElem?_getD, List.getElem?_eq_getElem (by have := HB.out; omega)]; rfl)
      rw [← hx] at c1
      rw [← hy] at c2
      have se := str_eq ux uy
      clear hc1 hc2 hx hy
      by_cases hxy : x = y
      · rw [decide_eq_true hxy] at se
        have EXY := Lib.hid hxy
        clear hxy
        go_wp2_with fail
        go_quiet (fail)
        go_wp2_with fail
        go_roundw
        case rel =>
          refine ⟨k + 1, by omega, by go_num, fun j hj => ?_, (by repeat (first | exact hb | apply below_drewN))⟩
          by_cases e : j = k
          · rw [e, ex.out, ey.out]; exact fun h => h.1 EXY.out
          · exact HNO.out j (by omega)
        case measure => simp [intOf]; omega
      · rw [decide_eq_false hxy] at se
        have NXY := Lib.hid hxy
        clear hxy
        have t1 : b1 < wr.heap.size := World.block_lt_of_cell? _ _ c1
        have t2 : b2 < wr.heap.size := World.block_lt_of_cell? _ _ c2
        go_wp2_with fail
        refine wp_region_held_drew (S := fun W => W.cell? ⟨b1, o1 + k, none⟩ = some (str x) ∧ W.cell? ⟨b2, o2 + k, none⟩ = some (str y)) (by kernel_rfl) (⟨c1, c2⟩) (fun hS => ?_)
        refine wpAnyH_take (i := 0) (v := ?_) rfl (by kernel_rfl) (by kernel_rfl) (by kernel_rfl) (fun _ _ _ h => h) (Or.inl ⟨by rfl, ?_⟩) hS ?_
        rotate_left
        · intro w _; go_simp; try with_reducible rfl
        simp only [List.getElem_toArray, List.getElem_cons_zero, List.getElem_cons_succ, Act.put, List.setIfInBounds_toArray, List.set_cons_zero, List.set_cons_succ]
        refine wpAnyH_take (i := 1) (v := ?_) rfl (by kernel_rfl) (by kernel_rfl) (by kernel_rfl) (fun _ _ _ h => h) (Or.inl ⟨by rfl, ?_⟩) hS ?_
        rotate_left
        · intro w _; go_simp; try with_reducible rfl
        simp only [List.getElem_toArray, List.getElem_cons_zero, List.getElem_cons_succ, Act.put, List.setIfInBounds_toArray, List.set_cons_zero, List.set_cons_succ]
        refine wpAnyH_take (i := 2) (v := ?_) rfl (by kernel_rfl) (by kernel_rfl) (by kernel_rfl) (fun _ _ _ h => h) (Or.inl ⟨by rfl, ?_⟩) hS ?_
        rotate_left
        · intro w _; go_simp; try with_reducible rfl
        simp only [List.getElem_toArray, List.getElem_cons_zero, List.getElem_cons_succ, Act.put, List.setIfInBounds_toArray, List.set_cons_zero, List.set_cons_succ]
        refine wpAnyH_take (i := 3) (v := ?_) rfl (by kernel_rfl) (by kernel_rfl) (by kernel_rfl) (fun _ _ _ h => h) (Or.inl ⟨by rfl, ?_⟩) hS ?_
        rotate_left
        · intro W_ hW_; obtain ⟨c1_, c2_⟩ := hW_; go_simp; try with_reducible rfl
        simp only [List.getElem_toArray, List.getElem_cons_zero, List.getElem_cons_succ, Act.put, List.setIfInBounds_toArray, List.set_cons_zero, List.set_cons_succ]
        refine wpAnyH_take (i := 4) (v := ?_) rfl (by kernel_rfl) (by kernel_rfl) (by kernel_rfl) (fun _ _ _ h => h) (Or.inl ⟨by rfl, ?_⟩) hS ?_
        rotate_left
        · intro w _; go_simp; try with_reducible rfl
        simp only [List.getElem_toArray, List.getElem_cons_zero, List.getElem_cons_succ, Act.put, List.setIfInBounds_toArray, List.set_cons_zero, List.set_cons_succ]
        refine wpAnyH_take (i := 5) (v := ?_) rfl (by kernel_rfl) (by kernel_rfl) (by kernel_rfl) (fun _ _ _ h => h) (Or.inl ⟨by rfl, ?_⟩) hS ?_
        rotate_left
        · intro w _; go_simp; try with_reducible rfl
        simp only [List.getElem_toArray, List.getElem_cons_zero, List.getElem_cons_succ, Act.put, List.setIfInBounds_toArray, List.set_cons_zero, List.set_cons_succ]
        refine wpAnyH_take (i := 6) (v := ?_) rfl (by kernel_rfl) (by kernel_rfl) (by kernel_rfl) (fun _ _ _ h => h) (Or.inl ⟨by rfl, ?_⟩) hS ?_
        rotate_left
        · intro w _; go_simp; try with_reducible rfl
        simp only [List.getElem_toArray, List.getElem_cons_zero, List.getElem_cons_succ, Act.put, List.setIfInBounds_toArray, List.set_cons_zero, List.set_cons_succ]
        refine wpAnyH_take (i := 7) (v := ?_) rfl (by kernel_rfl) (by kernel_rfl) (by kernel_rfl) (fun _ _ _ h => h) (Or.inl ⟨by rfl, ?_⟩) hS ?_
        rotate_left
        · intro W_ hW_; obtain ⟨c1_, c2_⟩ := hW_; go_simp; try with_reducible rfl
        simp only [List.getElem_toArray, List.getElem_cons_zero, List.getElem_cons_succ, Act.put, List.setIfInBounds_toArray, List.set_cons_zero, List.set_cons_succ]
        refine wpAnyH_take (i := 8) (v := ?_) rfl (by kernel_rfl) (by kernel_rfl) (by kernel_rfl) (fun _ _ _ h => h) (Or.inl ⟨by rfl, ?_⟩) hS ?_
        rotate_left
        · intro w _; go_simp; try with_reducible rfl
        simp only [List.getElem_toArray, List.getElem_cons_zero, List.getElem_cons_succ, Act.put, List.setIfInBounds_toArray, List.set_cons_zero, List.set_cons_succ]
        refine wpAnyH_take (i := 9) (v := ?_) rfl (by kernel_rfl) (by kernel_rfl) (by kernel_rfl) (fun _ _ _ h => h) (Or.inl ⟨by rfl, ?_⟩) hS ?_
        rotate_left
        · intro w _; go_simp; try with_reducible rfl
        simp only [List.getElem_toArray, List.getElem_cons_zero, List.getElem_cons_succ, Act.put, List.setIfInBounds_toArray, List.set_cons_zero, List.set_cons_succ]
        refine wpAnyH_take (i := 10) (v := ?_) rfl (by kernel_rfl) (by kernel_rfl) (by kernel_rfl) (fun _ _ _ h => h) (Or.inl ⟨by rfl, ?_⟩) hS ?_
        rotate_left
        · intro w _; go_simp; try with_reducible rfl
        simp only [List.getElem_toArray, List.getElem_cons_zero, List.getElem_cons_succ, Act.put, List.setIfInBounds_toArray, List.set_cons_zero, List.set_cons_succ]
        refine wpAnyH_take (i := 11) (v := ?_) rfl (by kernel_rfl) (by kernel_rfl) (by kernel_rfl) (fun _ _ _ h => h) (Or.inl ⟨by rfl, ?_⟩) hS ?_
        rotate_left
        · intro w _; go_simp; try with_reducible rfl
        simp only [List.getElem_toArray, List.getElem_cons_zero, List.getElem_cons_succ, Act.put, List.setIfInBounds_toArray, List.set_cons_zero, List.set_cons_succ]
        refine wpAnyH_take (i := 12) (v := ?_) rfl (by kernel_rfl) (by kernel_rfl) (by kernel_rfl) (fun _ _ _ h => h) (Or.inl ⟨by rfl, ?_⟩) hS ?_
        rotate_left
        · intro w _; go_simp; try with_reducible rfl
        simp only [List.getElem_toArray, List.getElem_cons_zero, List.getElem_cons_succ, Act.put, List.setIfInBounds_toArray, List.set_cons_zero, List.set_cons_succ]
        refine wpAnyH_take (i := 13) (v := ?_) rfl (by kernel_rfl) (by kernel_rfl) (by kernel_rfl) (fun _ _ _ h => h) (Or.inl ⟨by rfl, ?_⟩) hS ?_
        rotate_left
        · intro W_ hW_; obtain ⟨c1_, c2_⟩ := hW_; go_simp; try with_reducible rfl
        simp only [List.getElem_toArray, List.getElem_cons_zero, List.getElem_cons_succ, Act.put, List.setIfInBounds_toArray, List.set_cons_zero, List.set_cons_succ]
        refine wpAnyH_take (i := 15) (v := ?_) rfl (by kernel_rfl) (by kernel_rfl) (by kernel_rfl) (fun _ _ _ h => h) (Or.inl ⟨by rfl, ?_⟩) hS ?_
        rotate_left
        · intro w _; go_simp; try with_reducible rfl
        simp only [List.getElem_toArray, List.getElem_cons_zero, List.getElem_cons_succ, Act.put, List.setIfInBounds_toArray, List.set_cons_zero, List.set_cons_succ]
        refine wpAnyH_take (i := 16) (v := ?_) rfl (by kernel_rfl) (by kernel_rfl) (by kernel_rfl) (fun _ _ _ h => h) (Or.inl ⟨by rfl, ?_⟩) hS ?_
        rotate_left
        · intro w _; go_simp; try with_reducible rfl
        simp only [List.getElem_toArray, List.getElem_cons_zero, List.getElem_cons_succ, Act.put, List.setIfInBounds_toArray, List.set_cons_zero, List.set_cons_succ]
        refine wpAnyH_take (i := 17) (v := ?_) rfl (by kernel_rfl) (by kernel_rfl) (by kernel_rfl) (fun _ _ _ h => h) (Or.inl ⟨by rfl, ?_⟩) hS ?_
        rotate_left
        · intro w _; go_simp; try with_reducible rfl
        simp only [List.getElem_toArray, List.getElem_cons_zero, List.getElem_cons_succ, Act.put, List.setIfInBounds_toArray, List.set_cons_zero, List.set_cons_succ]
        refine wpAnyH_take (i := 18) (v := ?_) rfl (by kernel_rfl) (by kernel_rfl) (by kernel_rfl) (fun _ _ _ h => h) (Or.inl ⟨by rfl, ?_⟩) hS ?_
        rotate_left
        · intro W_ hW_; obtain ⟨c1_, c2_⟩ := hW_; go_simp; try with_reducible rfl
        simp only [List.getElem_toArray, List.getElem_cons_zero, List.getElem_cons_succ, Act.put, List.setIfInBounds_toArray, List.set_cons_zero, List.set_cons_succ]
        obtain ⟨W, hW⟩ : ∃ W, W = World.drew wr := ⟨_, rfl⟩
        have hBW : Below w.heap.size w W := by rw [hW]; exact below_drewN hb 1
        have tW : b1 < W.heap.size ∧ b2 < W.heap.size := by rw [hW]; exact ⟨t1, t2⟩
        rw [← hW] at hS ⊢
        have hx36 := hash36_c x W ux (ht.below hBW)
        obtain ⟨hX, hhX⟩ : ∃ h, h = hashT x := ⟨_, rfl⟩
        obtain ⟨hY, hhY⟩ : ∃ h, h = hashT y := ⟨_, rfl⟩
        have hy36 := fun V (k : Below w.heap.size w V) => hash36_c y V uy (ht.below k)
        have se2 := str_eq (hashT_u8 ux) (hashT_u8 uy)
        rw [← hhX] at hx36
        rw [← hhX, ← hhY] at se2
        simp only [← hhY] at hy36
        have HHX := Lib.hid hhX
        have HHY := Lib.hid hhY
        clear hW hhX hhY c1 c2 hb
        refine wpAnyH_ready (rs := [14]) (by kernel_rfl) (by simp) ?_
        refine AllReadyH.cons rfl (fun K hK => ?_) AllReadyH.nil
        rw [if_pos (by rfl)]
        simp only [List.getElem_toArray, List.getElem_cons_zero, List.getElem_cons_succ]
        go_simp
        refine hx36.mono ?_; rintro e_ w1 ⟨rfl, hb1⟩
        dsimp only
        have hB1 := hBW.trans (hb1.mono hBW.size)
        have tw : b1 < w1.heap.size ∧ b2 < w1.heap.size := ⟨Nat.lt_of_lt_of_le tW.1 hb1.size, Nat.lt_of_lt_of_le tW.2 hb1.size⟩
        refine hK.out _ _ ⟨by rw [World.cell?_of_block (w := W) (hb1.block b1 tW.1)]; exact hS.1, by rw [World.cell?_of_block (w := W) (hb1.block b2 tW.2)]; exact hS.2⟩ (fun hS => ?_)
        have hy2 := hy36 w1 hB1
        refine wpAnyH_ready (rs := [19]) (by kernel_rfl) (by simp) ?_
        refine AllReadyH.cons rfl (fun K hK => ?_) AllReadyH.nil
        rw [if_pos (by rfl)]
        simp only [List.getElem_toArray, List.getElem_cons_zero, List.getElem_cons_succ]
        go_simp
        refine hy2.mono ?_; rintro e_ w2 ⟨rfl, hb2⟩
        dsimp only
        have hB2 := hB1.trans (hb2.mono hB1.size)
        refine hK.out _ _ ⟨by rw [World.cell?_of_block (w := w1) (hb2.block b1 tw.1)]; exact hS.1, by rw [World.cell?_of_block (w := w1) (hb2.block b2 tw.2)]; exact hS.2⟩ (fun hS => ?_)
        clear hx36 hy36 hy2 hBW hB1 hb1 hb2
        by_cases heq : hX = hY
        · rw [decide_eq_true heq] at se2
          clear heq
          refine wpAnyH_ready (rs := [20]) (by kernel_rfl) (by simp) ?_
          refine AllReadyH.cons rfl (fun K hK => ?_) AllReadyH.nil
          rw [if_pos (by rfl)]
          simp only [List.getElem_toArray, List.getElem_cons_zero, List.getElem_cons_succ]
          go_simp
          refine hK.out _ _ hS (fun hS => ?_)
          refine wpAnyH_ready (rs := [21]) (by kernel_rfl) (by simp) ?_
          refine AllReadyH.cons rfl (fun K hK => ?_) AllReadyH.nil
          rw [if_pos (by rfl)]
          simp only [List.getElem_toArray, List.getElem_cons_zero, List.getElem_cons_succ]
          go_simp
          refine hK.out _ _ hS (fun hS => ?_)
          refine wpAnyH_done (by kernel_rfl) ?_ _
          go_wp2_with fail
          go_ret
          exact ⟨rfl, hB2⟩
        · rw [decide_eq_false heq] at se2
          have HNE := Lib.hid heq
          clear heq
          refine wpAnyH_ready (rs := [20]) (by kernel_rfl) (by simp) ?_
          refine AllReadyH.cons rfl (fun K hK => ?_) AllReadyH.nil
          rw [if_pos (by rfl)]
          simp only [List.getElem_toArray, List.getElem_cons_zero, List.getElem_cons_succ]
          go_simp
          refine hK.out _ _ hS (fun hS => ?_)
          refine wpAnyH_ready (rs := [21]) (by kernel_rfl) (by simp) ?_
          refine AllReadyH.cons rfl (fun K hK => ?_) AllReadyH.nil
          rw [if_pos (by rfl)]
          simp only [List.getElem_toArray, List.getElem_cons_zero, List.getElem_cons_succ]
          go_simp
          refine hK.out _ _ hS (fun hS => ?_)
          refine wpAnyH_done (by kernel_rfl) ?_ _
          go_wp2_with fail
          go_roundw
          case rel =>
            refine ⟨k + 1, by omega, by go_num, fun j hj => ?_, hB2⟩
            by_cases e : j = k
            · rw [e, ex.out, ey.out]; exact fun h => HNE.out (by rw [HHX.out, HHY.out]; exact h.2)
            · exact HNO.out j (by omega)
          case measure => simp [intOf]; omega
    · obtain rfl : k = n := by omega
      exfalso
      obtain ⟨j, hj, h⟩ := hcl
      exact HNO.out j hj h
end Go.Proofs.YtmbifokiebjmmaaDoor
