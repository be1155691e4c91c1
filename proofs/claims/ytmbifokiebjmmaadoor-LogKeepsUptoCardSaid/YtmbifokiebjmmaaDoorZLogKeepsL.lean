import Derived.Test.YtmbifokiebjmmaaDoorZ20
import Derived.Test.YtmbifokiebjmmaaDoorZ23
/- signetlaw36.LogKeeps by its contract. (Printed by gen_logkeeps.py.) -/
set_option linter.unusedVariables false
set_option linter.unusedSimpArgs false
namespace Go.Sg
open Go.RowKit
theorem KeepT.lists {E F : TypeId} {w w' : World} {B n : Nat} {T U : TypeId} {l : Value} {V : Nat → Value} {A : Nat → List Int} (h : KeepT E F w w') (hl : Lists B .u8 T U w l n V A) (h1 : T ≠ E) (h2 : T ≠ F) (h3 : U ≠ E) (h4 : U ≠ F) : Lists B .u8 T U w' l n V A :=
  ⟨h.newV hl.row h3 h4, fun i hi => h.new (hl.fam.new i hi) h1 h2, hl.fam.apart⟩
theorem Lists.oneL {B : Nat} {E T : TypeId} {w : World} {v : Value} {xs : List Int} (h : New B .u8 E w v xs) (hB : B ≤ w.heap.size) : Lists B .u8 E T (w.alloc (.cells #[v] T)) (.slice (some ⟨w.heap.size, 0, none⟩) 1 1) 1 (fun _ => v) (fun _ => xs) :=
  ⟨.one v hB, fun i hi => h.alloc _, fun i j hi hj hne => absurd (show i = j by omega) hne⟩
theorem NewV.heapT {B : Nat} {E : TypeId} {w : World} {v : Value} {vs : List Value} {g : Nat} (h : NewV B E w v vs) (hg : v.ownBlock = some g) : ∃ cs, w.heap[g]? = some (.cells cs E (0, 0)) := by
  rcases h with ⟨rfl, _⟩ | ⟨q, cap, cs, rfl, _, hh, _⟩
  · simp [Value.ownBlock] at hg
  · cases hg
    exact ⟨cs, hh⟩
/-- One of the lists, as it lies. -/
theorem Lists.at_ {B n c : Nat} {E T : TypeId} {w : World} {a : Option Addr} {m : Nat} {V : Nat → Value} {A : Nat → List Int} (h : Lists B .u8 E T w (.slice a m c) n V A) {i : Nat} (hi : i < n) {d : List Int} (hd : A i = d) (dd : Dig d) :
    ∃ g x k, a = some ⟨g, 0, none⟩ ∧ g < w.heap.size ∧ w.cell? ⟨g, i, none⟩ = some (.slice x 32 k) ∧ Sl .u8 w x k d := by
  obtain ⟨g, ha, hc⟩ := h.row.place hi
  obtain ⟨x, k, hv, hs, _⟩ := h.fam.own hi
  rw [hd] at hv hs
  rw [dd.1] at hv
  exact ⟨g, x, k, ha, World.block_lt_of_cell? w _ hc, by rw [hc, hv], hs⟩
end Go.Sg
namespace Go.Proofs.YtmbifokiebjmmaaDoor
open Go.RowKit Go.Sg
theorem hsh_take (q : List (List Int)) (i : Nat) (h : i < q.length) : (hsh q).take (i + 1) = (hsh q).take i ++ [leafD (q[i])] := by
  unfold hsh
  rw [List.take_add_one, List.getElem?_map, List.getElem?_eq_getElem h]
  rfl
set_option maxHeartbeats 16000000 in
set_option maxRecDepth 100000 in
theorem LogKeeps_c (A : Option Addr) (ca : Nat) (p : List (List Int)) (m : Int) (w : World) (bm : -9223372036854775808 ≤ m ∧ m ≤ 9223372036854775807) (sp : Ss w A ca p) (hz : tot p + p.length ≤ 1048576) (ht : ShaTabs w) (hr : RefTabs w) :
    Calls Tryd.prog 10 #[.slice A p.length ca, .int .i64 m] w (TruePost w) := by
  have tp : ∀ s ∈ p, s.length ≤ 1048576 := fun s hs => by have := tot_le s hs; omega
  obtain ⟨n0, hn0⟩ : ∃ n, n = p.length := ⟨_, rfl⟩
  rw [← hn0]
  obtain ⟨q, hq⟩ : ∃ q, q = p.take 60 := ⟨_, rfl⟩
  have sq : Ss w A ca q := by rw [hq]; exact sp.take 60
  have tq : ∀ s ∈ q, s.length ≤ 1048576 := fun s hs => tp s (by rw [hq] at hs; exact List.mem_of_mem_take hs)
  have uq := sq.u8
  have lq : q.length = if 60 < n0 then 60 else n0 := by rw [hq, List.length_take, ← hn0]; split <;> omega
  have nc : n0 ≤ ca := by rw [hn0]; exact sp.le
  have hB := Below.refl w.heap.size w
  have c0 := LogNew_c w
  clear hq hn0 sp tp hz
  by_cases h60 : 60 < n0
  · obtain ⟨n, hn⟩ : ∃ n, n = 60 := ⟨_, rfl⟩
    rw [if_pos h60, ← hn] at lq
    have hn60 : n ≤ 60 := Nat.le_of_eq hn
    have lcut : ∀ W, (Instr.sliceAt 22 (.slice A n0 ca) none (some (.int .i64 60)) none).run Tryd.prog W = .ok (.slice A n ca) W := fun W => by rw [hn]; exact cutS_to W A n0 ca 60 (by omega)
    have HN := Lib.hid lq.symm
    have g1 : decide ((60 : Int) < (n0 : Int)) = true := decide_eq_true (by omega)
    have g2 : decide (60 < n0) = true := decide_eq_true h60
    have g3 : (60 : Int) < (n0 : Int) := by omega
    clear hn lq nc
    go_enter Tryd.func10, Tryd.ntmps10
    go_wp2_with fail
    refine c0.mono ?_; rintro e_ w1 ⟨g, rfl, hl1, hb1⟩
    have c1 : Calls Tryd.prog 30 #[.pointer (some ⟨g, 0, none⟩), .int .i64 0] w1 (fun e w' => ∃ v, e = .returned (.tuple #[v, .int .i64 0]) ∧ New w1.heap.size .u8 5 w' v (rootB []) ∧ Below w1.heap.size w1 w') := by
      have := LogRoot_c _ g [] 0 w1 hl1 (by simp) (ht.below hb1)
      rw [if_pos ⟨Int.le_refl _, by simp⟩] at this
      refine this.mono fun e w' h => ?_
      obtain ⟨v, h1, h2, _, h3⟩ := h
      exact ⟨v, h1, h2, h3⟩
    clear c0
    go_wp2_with fail
    refine c1.mono ?_; rintro e_ w2 ⟨v0, rfl, n0', hb2⟩
    have dr0 : Dig (rootB []) := root_dig _ _ _ (fun d hd => by cases hd)
    have hB2 := hb1.trans (hb2.mono hb1.size)
    have hl2 := hl1.keep hb2
    have L0 := Lists.oneL (T := 25) (n0'.mono hb1.size) hB2.size
    obtain ⟨a0, k0, rfl, -⟩ := n0'.at_own
    rw [dr0.1] at L0 ⊢
    have al := (Below.refl w2.heap.size w2).alloc (Nat.le_refl _) (.cells #[.slice a0 32 k0] 25)
    have hB3 := hB2.trans (al.mono hB2.size)
    have hl3 := hl2.keep al
    have start : Hid (∀ j, j < 0 + 1 → (fun _ => rootB []) j = rootB ((hsh q).take j)) := Lib.hid fun j hj => by
      obtain rfl : j = 0 := by omega
      rfl
    clear c1 n0' hb1 hb2 hl1 hl2 hB2 al hB dr0
    go_wp2_with fail
    clear g1 g2 g3
    go_loopw [8, 9] (fun r t wr => ∃ (i : Nat) (V : Nat → Value) (AV : Nat → List Int), i ≤ n ∧ t = .int .i64 (i : Int) ∧ LogAt w.heap.size wr g ((hsh q).take i) ∧ Lists w.heap.size .u8 5 25 wr r (i + 1) V AV ∧ Hid (∀ j, j < i + 1 → AV j = rootB ((hsh q).take j)) ∧ Below w.heap.size w wr) (fun _ t _ => n - (intOf t).toNat)
    case atStart => exact ⟨0, _, _, by omega, rfl, hl3, L0, start, hB3⟩
    case round =>
      clear hl3 L0 start hB3
      obtain ⟨i, V, AV, hi, rfl, hl, hL, HA, hB⟩ := hrel
      obtain ⟨aR, cR, rfl⟩ := hL.sl
      by_cases hlt : i < n
      · have hd : decide ((i : Int) < (n : Int)) = true := decide_eq_true (by omega)
        have hii : (i : Int) < (n : Int) := by omega
        have hiq : Hid (i < q.length) := Lib.hid (by rw [← HN.out]; exact hlt)
        obtain ⟨b, off, rfl, hc⟩ := (sq.below hB).at_ (by have := hiq.out; omega)
        have cell := hc i hiq.out
        obtain ⟨s, hs⟩ : ∃ s, s = q[i]'hiq.out := ⟨_, rfl⟩
        rw [← hs] at cell
        have us : U8 s := by rw [hs]; exact uq _ (List.getElem_mem _)
        have ls : s.length ≤ 1048576 := by rw [hs]; exact tq _ (List.getElem_mem _)
        have ET : Hid ((hsh q).take (i + 1) = (hsh q).take i ++ [leafD s]) := Lib.hid (by rw [hsh_take q i hiq.out, hs])
        have LT : Hid (((hsh q).take i).length = i ∧ ((hsh q).take (i + 1)).length = i + 1) := Lib.hid (by
          have := hiq.out
          constructor
          · rw [List.length_take, hsh_len]; omega
          · rw [List.length_take, hsh_len]; omega)
        obtain ⟨w3, cb, hcv, s3, hb3⟩ := run_bytes_of (P := Tryd.prog) wr 9 25 5 Tryd.underlying9 Tryd.underlying25 Tryd.underlying5 us (by omega)
        have hB3 := hB.trans (hb3.mono hB.size)
        have hl3 := hl.keep hb3
        have hL3 := hL.keep hb3
        have c2 := LogAppend_c w.heap.size g _ _ cb s w3 hl3 s3 us (by omega) hB3.size (ht.below hB3)
        unfold AppPost at c2
        rw [LT.out.1, ← ET.out] at c2
        simp only [show ¬ 65536 ≤ i by omega, if_false] at c2
        clear hs hc hb3 s3 hl hL hB
        go_wp2_with fail
        refine c2.mono ?_; rintro e_ w4 ⟨rfl, hl4, hb4, k4⟩
        have hB4 := hB3.trans hb4
        have hL4 := KeepT.lists k4 hL3 (by decide) (by decide) (by decide) (by decide)
        clear c2 hb4 k4 hl3 hL3 hB3 cell hcv
        obtain ⟨E, hE⟩ : ∃ E, E = (hsh q).take (i + 1) := ⟨_, rfl⟩
        have HE := Lib.hid hE
        rw [← hE] at hl4
        have DE : ∀ d ∈ E, Dig d := fun d hd => hsh_dig q d (by rw [hE] at hd; exact List.mem_of_mem_take hd)
        have LE : Hid (E.length = i + 1) := Lib.hid (by rw [hE]; exact LT.out.2)
        have ETK : Hid (∀ j, j ≤ i → E.take j = (hsh q).take j) := Lib.hid fun j hj => by rw [HE.out, List.take_take, Nat.min_eq_left (by omega)]
        have RT := fun (W : World) (j : Nat) (hj : j ≤ i + 1) (hl : LogAt w.heap.size W g E) (hb : Below w.heap.size w W) =>
          (show Calls Tryd.prog 30 #[.pointer (some ⟨g, 0, none⟩), .int .i64 (j : Int)] W (fun e w' => ∃ v, e = .returned (.tuple #[v, .int .i64 0]) ∧ New W.heap.size .u8 5 w' v (rootB (E.take j)) ∧ Below W.heap.size W w') by
            have := LogRoot_c w.heap.size g E (j : Int) W hl (by rw [LE.out]; omega) (ht.below hb)
            rw [LE.out, if_pos ⟨by omega, by omega⟩, Int.toNat_natCast] at this
            refine this.mono fun e w' h => ?_
            obtain ⟨v, h1, h2, _, h3⟩ := h
            exact ⟨v, h1, h2, h3⟩)
        have DR : Hid (∀ j, Dig (rootB (E.take j))) := Lib.hid fun j => root_dig _ _ _ (fun d hd => DE d (List.mem_of_mem_take hd))
        obtain ⟨w5, rfl⟩ : ∃ x, x = w4 := ⟨_, rfl⟩
        clear hE
        go_wp2_with fail
        go_loopw [10] (fun t wr => ∃ k : Nat, k ≤ i + 1 ∧ t = .int .i64 (k : Int) ∧ Below w5.heap.size w5 wr) (fun t _ => i + 1 - (intOf t).toNat)
        case atStart => exact ⟨0, by omega, rfl, .refl _ _⟩
        case round =>
          clear hd
          obtain ⟨k, hk, rfl, hb⟩ := hrel
          have hBr := hB4.trans (hb.mono hB4.size)
          have hlr := hl4.keep hb
          have hLr := hL4.keep hb
          by_cases hkl : k < i + 1
          · have hd : decide ((k : Int) < (i : Int) + 1) = true := decide_eq_true (by omega)
            have hd2 : (k : Int) < (i : Int) + 1 := by omega
            have hd3 : decide (k < i + 1) = true := decide_eq_true hkl
            obtain ⟨r, hr_⟩ : ∃ r, r = rootB (E.take k) := ⟨_, rfl⟩
            have dr : Dig r := by rw [hr_]; exact DR.out k
            have c3 := RT wr k (by omega) hlr hBr
            rw [← hr_] at c3
            have er : AV k = r := by rw [hr_, ETK.out k (by omega)]; exact HA.out k hkl
            have ER := Lib.hid er
            clear hr_ er
            go_wp2_with fail
            refine c3.mono ?_; rintro e_ w6 ⟨v, rfl, nv, hb6⟩
            obtain ⟨gR, x, kx, eR, gl, cl, sx⟩ := (hLr.keep hb6).at_ hkl ER.out dr
            cases eR
            obtain ⟨av, cv, rfl, sv, -⟩ := nv.at_own
            rw [dr.1] at nv ⊢
            have se := str_eq dr.2 dr.2
            rw [decide_eq_true (show r = r from rfl)] at se
            have hb7 := hb.trans (hb6.mono hb.size)
            have SV := Lib.hid sv
            have SX := Lib.hid sx
            clear c3 hlr hLr hBr hb hb6 nv sv sx
            go_wp2_with fail
            refine wp_region_held_drew (S := fun W => W.cell? ⟨gR, k, none⟩ = some (.slice x 32 kx) ∧ Sl .u8 W x kx r ∧ Sl .u8 W av cv r) (by kernel_rfl) (⟨cl, SX.out.below (below_drewN (.refl _ _) 1), SV.out.below (below_drewN (.refl _ _) 1)⟩) (fun hS => ?_)
            refine wpAnyH_take (i := 0) (v := ?_) rfl (by kernel_rfl) (by kernel_rfl) (by kernel_rfl) (fun _ _ _ h => h) (Or.inl ⟨by rfl, ?_⟩) hS ?_
            rotate_left
            · intro w _; go_simp; try with_reducible rfl
            simp only [List.getElem_toArray, List.getElem_cons_zero, List.getElem_cons_succ, Act.put, List.setIfInBounds_toArray, List.set_cons_zero, List.set_cons_succ]
            refine wpAnyH_take (i := 1) (v := ?_) rfl (by kernel_rfl) (by kernel_rfl) (by kernel_rfl) (fun _ _ _ h => h) (Or.inl ⟨by rfl, ?_⟩) hS ?_
            rotate_left
            · intro w _; go_simp; try with_reducible rfl
            simp only [List.getElem_toArray, List.getElem_cons_zero, List.getElem_cons_succ, Act.put, List.setIfInBounds_toArray, List.set_cons_zero, List.set_cons_succ]
            refine wpAnyH_take (i := 2) (v := ?_) rfl (by kernel_rfl) (by kernel_rfl) (by kernel_rfl) (fun _ _ _ h => h) (Or.inl ⟨by rfl, ?_⟩) hS ?_
            rotate_left
            · intro w _; go_simp; try with_reducible rfl
            simp only [List.getElem_toArray, List.getElem_cons_zero, List.getElem_cons_succ, Act.put, List.setIfInBounds_toArray, List.set_cons_zero, List.set_cons_succ]
            refine wpAnyH_take (i := 3) (v := ?_) rfl (by kernel_rfl) (by kernel_rfl) (by kernel_rfl) (fun _ _ _ h => h) (Or.inl ⟨by rfl, ?_⟩) hS ?_
            rotate_left
            · intro w _; go_simp; try with_reducible rfl
            simp only [List.getElem_toArray, List.getElem_cons_zero, List.getElem_cons_succ, Act.put, List.setIfInBounds_toArray, List.set_cons_zero, List.set_cons_succ]
            refine wpAnyH_take (i := 4) (v := (str r)) rfl (by kernel_rfl) (by kernel_rfl) (by kernel_rfl) (fun _ _ _ h => h) (Or.inl ⟨by rfl, ?_⟩) hS ?_
            · intro W_ hW_; have hc_ := run_str_of (P := Tryd.prog) W_ 25 9 5 Tryd.underlying25 Tryd.underlying5 Tryd.underlying9 32 dr.1.symm hW_.2.2; go_simp; try with_reducible rfl
            simp only [List.getElem_toArray, List.getElem_cons_zero, List.getElem_cons_succ, Act.put, List.setIfInBounds_toArray, List.set_cons_zero, List.set_cons_succ]
            refine wpAnyH_take (i := 5) (v := ?_) rfl (by kernel_rfl) (by kernel_rfl) (by kernel_rfl) (fun _ _ _ h => h) (Or.inl ⟨by rfl, ?_⟩) hS ?_
            rotate_left
            · intro w _; go_simp; try with_reducible rfl
            simp only [List.getElem_toArray, List.getElem_cons_zero, List.getElem_cons_succ, Act.put, List.setIfInBounds_toArray, List.set_cons_zero, List.set_cons_succ]
            refine wpAnyH_take (i := 6) (v := ?_) rfl (by kernel_rfl) (by kernel_rfl) (by kernel_rfl) (fun _ _ _ h => h) (Or.inl ⟨by rfl, ?_⟩) hS ?_
            rotate_left
            · intro w _; go_simp; try with_reducible rfl
            simp only [List.getElem_toArray, List.getElem_cons_zero, List.getElem_cons_succ, Act.put, List.setIfInBounds_toArray, List.set_cons_zero, List.set_cons_succ]
            refine wpAnyH_take (i := 7) (v := ?_) rfl (by kernel_rfl) (by kernel_rfl) (by kernel_rfl) (fun _ _ _ h => h) (Or.inl ⟨by rfl, ?_⟩) hS ?_
            rotate_left
            · intro w _; go_simp; try with_reducible rfl
            simp only [List.getElem_toArray, List.getElem_cons_zero, List.getElem_cons_succ, Act.put, List.setIfInBounds_toArray, List.set_cons_zero, List.set_cons_succ]
            refine wpAnyH_take (i := 8) (v := ?_) rfl (by kernel_rfl) (by kernel_rfl) (by kernel_rfl) (fun _ _ _ h => h) (Or.inl ⟨by rfl, ?_⟩) hS ?_
            rotate_left
            · intro W_ hW_; obtain ⟨c1_, c2_⟩ := hW_; go_simp; try with_reducible rfl
            simp only [List.getElem_toArray, List.getElem_cons_zero, List.getElem_cons_succ, Act.put, List.setIfInBounds_toArray, List.set_cons_zero, List.set_cons_succ]
            refine wpAnyH_take (i := 9) (v := (str r)) rfl (by kernel_rfl) (by kernel_rfl) (by kernel_rfl) (fun _ _ _ h => h) (Or.inl ⟨by rfl, ?_⟩) hS ?_
            · intro W_ hW_; have hc_ := run_str_of (P := Tryd.prog) W_ 25 9 5 Tryd.underlying25 Tryd.underlying5 Tryd.underlying9 32 dr.1.symm hW_.2.1; go_simp; try with_reducible rfl
            simp only [List.getElem_toArray, List.getElem_cons_zero, List.getElem_cons_succ, Act.put, List.setIfInBounds_toArray, List.set_cons_zero, List.set_cons_succ]
            refine wpAnyH_take (i := 10) (v := ?_) rfl (by kernel_rfl) (by kernel_rfl) (by kernel_rfl) (fun _ _ _ h => h) (Or.inl ⟨by rfl, ?_⟩) hS ?_
            rotate_left
            · intro w _; go_simp; try with_reducible rfl
            simp only [List.getElem_toArray, List.getElem_cons_zero, List.getElem_cons_succ, Act.put, List.setIfInBounds_toArray, List.set_cons_zero, List.set_cons_succ]
            refine wpAnyH_take (i := 11) (v := ?_) rfl (by kernel_rfl) (by kernel_rfl) (by kernel_rfl) (fun _ _ _ h => h) (Or.inl ⟨by rfl, ?_⟩) hS ?_
            rotate_left
            · intro w _; go_simp; try with_reducible rfl
            simp only [List.getElem_toArray, List.getElem_cons_zero, List.getElem_cons_succ, Act.put, List.setIfInBounds_toArray, List.set_cons_zero, List.set_cons_succ]
            refine wpAnyH_done (by kernel_rfl) ?_ _
            clear hS cl
            have hb8 : Below w5.heap.size w5 (World.drew w6) := below_drewN hb7 1
            clear hb7
            go_wp2_with fail
            go_roundw
            case rel => exact ⟨k + 1, by omega, by go_num, hb8⟩
            case measure => simp [intOf]; omega
          · obtain rfl : k = i + 1 := by omega
            have hd : decide ((i : Int) + 1 < (i : Int) + 1) = false := by simp
            have c3 := RT wr (i + 1) (by omega) hlr hBr
            obtain ⟨now, hnow⟩ : ∃ r, r = rootB E := ⟨_, rfl⟩
            have HNOW := Lib.hid hnow
            have dn : Dig now := by rw [hnow]; exact root_dig _ _ _ DE
            rw [List.take_of_length_le (by rw [LE.out]; exact Nat.le_refl _), ← hnow] at c3
            rw [show ((i + 1 : Nat) : Int) = (i : Int) + 1 by omega] at c3
            clear hnow hl4 hL4 hB4 hb hkl
            go_wp2_with fail
            refine c3.mono ?_; rintro e_ w6 ⟨v, rfl, nv, hb6⟩
            have hB6 := hBr.trans (hb6.mono hBr.size)
            have hl6 := hlr.keep hb6
            have hfr : ∀ g, v.ownBlock = some g → wr.heap.size ≤ g := fun g hg => (nv.lt g hg).1
            have NV := Lib.hid nv
            obtain ⟨V1, A1, f1, r1, a1, e1, s1, t1⟩ := hLr.fam.push' (nv.mono hBr.size) hb6 hfr
            obtain ⟨av, cv, rfl, sv, -⟩ := nv.at_own
            rw [dn.1] at r1 t1 ⊢
            have al := (Below.refl w6.heap.size w6).alloc (Nat.le_refl _) (.cells #[.slice av 32 cv] 25)
            have row2 := (hLr.row.keep hb6).keep al
            have f2 := f1.keep al
            have hB7 := hB6.trans (al.mono hB6.size)
            have hl7 := hl6.keep al
            have sv7 := sv.below al
            have as1 : (w6.alloc (.cells #[.slice av 32 cv] 25)).heap.size = w6.heap.size + 1 := by simp
            have R1 := Lib.hid r1
            have A2 : Hid (∀ j, j < i + 1 + 1 → A1 j = rootB ((hsh q).take j)) := Lib.hid fun j hj => by
              by_cases c : j < i + 1
              · rw [a1 j c]; exact HA.out j c
              · obtain rfl : j = i + 1 := by omega
                rw [e1, HNOW.out, HE.out]
            have LK : Hid (((List.range (i + 1)).map V).length = i + 1) := Lib.hid (by simp)
            have lv := fun g hg => (row2.lt g hg).1
            have nvl : ∀ g, (Value.slice av 32 cv).ownBlock = some g → some g ≠ (Value.slice aR (i + 1) cR).ownBlock := fun g hg => by
              have hh := NV.out
              rw [dn.1] at hh
              exact (hLr.row.keep hb6).aside' hh (by decide) g hg
            have NVL := Lib.hid nvl
            obtain ⟨us, hus⟩ : ∃ us, us = (List.range (i + 1)).map V := ⟨_, rfl⟩
            have HUS := Lib.hid hus
            rw [← hus] at row2 LK
            clear hus
            clear c3 nv hfr hLr r1 a1 e1 s1 t1 f1 hb6 al hBr hlr hB6 hl6 sv nvl HA
            go_wp2_with (at_builtin; refine wpList_append_newV _ rfl _ _ 23 rfl w.heap.size 25 24 Tryd.underlying23 infoL _ _ rfl row2 _ 1 (.slice av 32 cv) ⟨_, _, _, rfl⟩ rfl (cell_new1 _ _ _ _) (by rw [LK.out]; omega) (by rw [LK.out]; omega) hB7.size ?_)
            intro l8 w8 hv8 hg8 ho8
            rw [HUS.out] at row2 hv8
            have hL8 := Lists.grow row2 f2 (by decide) hv8 hg8 R1.out
            have hl8 := hl7.by_blocks (w' := w8) (fun c cs T z hc hT => by
              rw [hg8.block c (Array.getElem?_eq_some_iff.1 hc).1 (fun e => by
                obtain ⟨cs', hh⟩ := NewV.heapT row2 e.symm
                rw [hc] at hh
                simp only [Option.some.injEq, Obj.cells.injEq] at hh
                rcases hT with h | h <;> rw [h] at hh <;> exact absurd hh.2.1 (by decide))]
              exact hc)
            have hB8 := hB7.grown hg8 hB7.size lv
            have sv8 : Sl .u8 w8 av cv now := sv7.grown' hg8 (fun b off e _ e2 => NVL.out b (by rw [e]; rfl) e2)
            clear row2 f2 hv8 hg8 ho8 hB7 hl7 lv as1 R1 LK sv7
            obtain ⟨aS, cS, rfl⟩ := hL8.sl
            have wi1 : IntKind.i64.wrap ((i : Int) + 1) = (i : Int) + 1 := by rw [IntKind.wrap_i64]; omega
            have GR := fun (W : World) (j : Nat) (hj : j ≤ i) (hl : LogAt w.heap.size W g E) (hb : Below w.heap.size w W) =>
              (show Calls Tryd.prog 38 #[.pointer (some ⟨g, 0, none⟩), .int .i64 (j : Int), .int .i64 ((i : Int) + 1)] W (fun e w' => ∃ v, e = .returned (.tuple #[v, .int .i64 0]) ∧ OwnLists (growB E j) W.heap.size w' v ∧ Below W.heap.size W w') by
                have := LogGrowth_c w.heap.size g E ((i : Int) + 1) (j : Int) W hl (by rw [LE.out]; omega) (ht.below hb)
                rw [LE.out, if_pos ⟨⟨by omega, by omega⟩, by omega, by omega⟩, Int.toNat_natCast, show ((i : Int) + 1).toNat = i + 1 by omega, List.take_of_length_le (by rw [LE.out]; exact Nat.le_refl _)] at this
                refine this.mono fun e w' h => ?_
                obtain ⟨v, h1, h2, h3⟩ := h
                exact ⟨v, h1, h2, h3⟩)
            have GN := fun (W : World) (j : Nat) (hj : j ≤ i) (xo : Option Addr) (ko : Nat) (so : Sl .u8 W xo ko (rootB (E.take j))) (sn : Sl .u8 W av cv now) (ap : Option Addr) (cp n9 : Nat) (hn9 : n9 = (growB E j).length) (ho : OwnLists (growB E j) W.heap.size W (.slice ap n9 cp) ∨ ∃ B, OwnLists (growB E j) B W (.slice ap n9 cp)) (hb : Below w.heap.size w W) =>
              (show Calls Tryd.prog 24 #[.slice xo 32 ko, .int .i64 (j : Int), .slice av 32 cv, .int .i64 ((i : Int) + 1), .slice ap n9 cp] W (TellPost true W) by
                obtain ⟨B9, ho⟩ : ∃ B, OwnLists (growB E j) B W (.slice ap n9 cp) := by
                  rcases ho with h | h
                  · exact ⟨_, h⟩
                  · exact h
                obtain ⟨ps, lps, rps, xps⟩ := OwnLists.rows hn9 ho (growB_dig DE j)
                have q3 := Grown_c xo av ap ko cv cp (rootB (E.take j)) now ps (j : Int) ((i : Int) + 1) W so (DR.out j).2 sn dn.2 rps (by have := growB_le E j; omega) (by omega) (ht.below hb)
                rw [(DR.out j).1, dn.1, lps, xps] at q3
                rw [decide_eq_true (show growP (rootB (E.take j)) (j : Int) now ((i : Int) + 1) (growB E j) by
                  have h := growB_shows DE (m := j) (by rw [LE.out]; omega) (by rw [LE.out]; omega)
                  rw [LE.out] at h
                  rw [HNOW.out]
                  exact h)] at q3
                exact q3)
            have ATR := fun (W : World) (j : Nat) (hj : j ≤ i) (hL : Lists w.heap.size .u8 5 25 W (.slice aS (i + 1 + 1) cS) (i + 1 + 1) V1 A1) => hL.at_ (i := j) (by omega) (d := rootB (E.take j)) (by rw [ETK.out j hj]; exact A2.out j (by omega)) (DR.out j)
            have c4 := GR w8 i (Nat.le_refl _) hl8 hB8
            go_wp2_with fail
            refine c4.mono ?_; rintro e_ w9 ⟨vp, rfl, op, hb9⟩
            obtain ⟨ap, cp, rfl⟩ := op.sl
            have hB9 := hB8.trans (hb9.mono hB8.size)
            have hl9 := hl8.keep hb9
            have hL9 := hL8.keep hb9
            have sv9 := sv8.below hb9
            obtain ⟨gR, xo, ko, eR, gl, cl, so⟩ := ATR w9 i (Nat.le_refl _) hL9
            cases eR
            obtain ⟨n9, hn9⟩ : ∃ z, z = (growB E i).length := ⟨_, rfl⟩
            rw [← hn9] at op ⊢
            have c5 := GN w9 i (Nat.le_refl _) xo ko so sv9 ap cp n9 hn9 (.inr ⟨_, op⟩) hB9
            unfold TellPost at c5
            have ai1 : (i : Int) < (i : Int) + 1 + 1 := by omega
            clear c4 hn9 op hb9 so hl8 hL8 sv8 hB8
            go_wp2_with fail
            refine c5.mono ?_; rintro e_ wa ⟨rfl, hba⟩
            have hBa := hB9.trans (hba.mono hB9.size)
            have hla := hl9.keep hba
            have hLa := hL9.keep hba
            have sva := sv9.below hba
            clear c5 hba hl9 hL9 sv9 hB9 cl gl
            by_cases hm0 : 0 ≤ m
            · have f0 : decide (0 ≤ m) = true := decide_eq_true hm0
              obtain ⟨M, rfl⟩ : ∃ M : Nat, m = (M : Int) := ⟨m.toNat, by omega⟩
              by_cases hmi : M ≤ i
              · have f1 : decide ((M : Int) ≤ (i : Int)) = true := decide_eq_true (by omega)
                have f2 : decide (M ≤ i) = true := decide_eq_true hmi
                have f3 : (M : Int) ≤ (i : Int) := by omega
                have c6 := GR wa M hmi hla hBa
                go_wp2_with fail
                refine c6.mono ?_; rintro e_ wb ⟨vq, rfl, oq, hbb⟩
                obtain ⟨aq, cq, rfl⟩ := oq.sl
                have hBb := hBa.trans (hbb.mono hBa.size)
                have hlb := hla.keep hbb
                have hLb := hLa.keep hbb
                have svb := sva.below hbb
                obtain ⟨_, x2, k2, eR, gl, cl, so⟩ := ATR wb M hmi hLb
                cases eR
                obtain ⟨n8, hn8⟩ : ∃ z, z = (growB E M).length := ⟨_, rfl⟩
                rw [← hn8] at oq ⊢
                have c7 := GN wb M hmi x2 k2 so svb aq cq n8 hn8 (.inr ⟨_, oq⟩) hBb
                unfold TellPost at c7
                have ai2 : (M : Int) < (i : Int) + 1 + 1 := by omega
                clear c6 hn8 oq hbb so hla hLa sva hBa
                go_wp2_with fail
                refine c7.mono ?_; rintro e_ wc ⟨rfl, hbc⟩
                have hBc := hBb.trans (hbc.mono hBb.size)
                have hlc := hlb.keep hbc
                have hLc := hLb.keep hbc
                rw [HE.out] at hlc
                clear c7 hbc hlb hLb svb hBb cl gl GR GN ATR RT
                go_wp2_with fail
                go_roundw
                case rel => exact ⟨i + 1, V1, A1, by omega, by go_num, hlc, hLc, A2, hBc⟩
                case measure => simp [intOf]; omega
              · have f1 : decide ((M : Int) ≤ (i : Int)) = false := decide_eq_false (by omega)
                have f2 : decide (M ≤ i) = false := decide_eq_false hmi
                have f3 : ¬ (M : Int) ≤ (i : Int) := by omega
                rw [HE.out] at hla
                clear GR GN ATR RT
                go_wp2_with fail
                go_roundw
                case rel => exact ⟨i + 1, V1, A1, by omega, by go_num, hla, hLa, A2, hBa⟩
                case measure => simp [intOf]; omega
            · have f0 : decide (0 ≤ m) = false := decide_eq_false hm0
              rw [HE.out] at hla
              clear GR GN ATR RT
              go_wp2_with fail
              go_roundw
              case rel => exact ⟨i + 1, V1, A1, by omega, by go_num, hla, hLa, A2, hBa⟩
              case measure => simp [intOf]; omega
      · obtain rfl : i = n := by omega
        have hd : decide ((i : Int) < (i : Int)) = false := by simp
        have EH : Hid ((hsh q).take i = hsh q) := Lib.hid (List.take_of_length_le (by rw [hsh_len, ← HN.out]; exact Nat.le_refl _))
        obtain ⟨r, hr_⟩ : ∃ r, r = rootB (hsh q) := ⟨_, rfl⟩
        have HR_ := Lib.hid hr_
        have dr : Dig r := by rw [hr_]; exact root_dig _ _ _ (hsh_dig q)
        obtain ⟨gR, x, kx, eR, gl, cl, sx⟩ := hL.at_ (i := i) (by omega) (d := r) (by rw [HA.out i (by omega), EH.out, hr_]) dr
        cases eR
        have rl := fun (W : World) (hb : Below w.heap.size w W) =>
          (show Calls Tryd.prog 14 #[.slice A i ca] W (StrsPost (hsh q) W) by
            have := rLeaves_c A ca q W (sq.below hb) (fun s hs => by have := tq s hs; omega) (by rw [← HN.out]; omega) (hr.below hb)
            rwa [← HN.out] at this)
        have rr := fun (W : World) (M : Option Addr) (cM : Nat) (hx : Ss W M cM (hsh q)) (hb : Below w.heap.size w W) =>
          (show Calls Tryd.prog 13 #[.slice M i cM] W (StrPost r W) by
            have := rRoot_c M cM (hsh q) W hx (hsh_dig q) (by rw [hsh_len, ← HN.out]; omega) (hr.below hb)
            rwa [hsh_len, ← HN.out, ← HR_.out] at this)
        unfold StrsPost at rl
        have se := str_eq dr.2 dr.2
        rw [decide_eq_true (show r = r from rfl)] at se
        have ii1 : (i : Int) < (i : Int) + 1 := by omega
        have SX := Lib.hid sx
        clear hl hL HA hr_ sx
        go_wp2_with fail
        refine wp_region_held_drew (S := fun W => W.cell? ⟨gR, i, none⟩ = some (.slice x 32 kx) ∧ Sl .u8 W x kx r) (by kernel_rfl) (⟨cl, SX.out.below (below_drewN (.refl _ _) 1)⟩) (fun hS => ?_)
        refine wpAnyH_take (i := 0) (v := ?_) rfl (by kernel_rfl) (by kernel_rfl) (by kernel_rfl) (fun _ _ _ h => h) (Or.inl ⟨by rfl, ?_⟩) hS ?_
        rotate_left
        · intro w _; go_simp; try with_reducible rfl
        simp only [List.getElem_toArray, List.getElem_cons_zero, List.getElem_cons_succ, Act.put, List.setIfInBounds_toArray, List.set_cons_zero, List.set_cons_succ]
        refine wpAnyH_take (i := 1) (v := ?_) rfl (by kernel_rfl) (by kernel_rfl) (by kernel_rfl) (fun _ _ _ h => h) (Or.inl ⟨by rfl, ?_⟩) hS ?_
        rotate_left
        · intro w _; go_simp; try with_reducible rfl
        simp only [List.getElem_toArray, List.getElem_cons_zero, List.getElem_cons_succ, Act.put, List.setIfInBounds_toArray, List.set_cons_zero, List.set_cons_succ]
        refine wpAnyH_take (i := 2) (v := ?_) rfl (by kernel_rfl) (by kernel_rfl) (by kernel_rfl) (fun _ _ _ h => h) (Or.inl ⟨by rfl, ?_⟩) hS ?_
        rotate_left
        · intro w _; go_simp; try with_reducible rfl
        simp only [List.getElem_toArray, List.getElem_cons_zero, List.getElem_cons_succ, Act.put, List.setIfInBounds_toArray, List.set_cons_zero, List.set_cons_succ]
        refine wpAnyH_take (i := 3) (v := ?_) rfl (by kernel_rfl) (by kernel_rfl) (by kernel_rfl) (fun _ _ _ h => h) (Or.inl ⟨by rfl, ?_⟩) hS ?_
        rotate_left
        · intro w _; go_simp; try with_reducible rfl
        simp only [List.getElem_toArray, List.getElem_cons_zero, List.getElem_cons_succ, Act.put, List.setIfInBounds_toArray, List.set_cons_zero, List.set_cons_succ]
        refine wpAnyH_take (i := 4) (v := ?_) rfl (by kernel_rfl) (by kernel_rfl) (by kernel_rfl) (fun _ _ _ h => h) (Or.inl ⟨by rfl, ?_⟩) hS ?_
        rotate_left
        · intro W_ hW_; obtain ⟨c1_, c2_⟩ := hW_; go_simp; try with_reducible rfl
        simp only [List.getElem_toArray, List.getElem_cons_zero, List.getElem_cons_succ, Act.put, List.setIfInBounds_toArray, List.set_cons_zero, List.set_cons_succ]
        refine wpAnyH_take (i := 5) (v := (str r)) rfl (by kernel_rfl) (by kernel_rfl) (by kernel_rfl) (fun _ _ _ h => h) (Or.inl ⟨by rfl, ?_⟩) hS ?_
        · intro W_ hW_; have hc_ := run_str_of (P := Tryd.prog) W_ 25 9 5 Tryd.underlying25 Tryd.underlying5 Tryd.underlying9 32 dr.1.symm hW_.2; go_simp; try with_reducible rfl
        simp only [List.getElem_toArray, List.getElem_cons_zero, List.getElem_cons_succ, Act.put, List.setIfInBounds_toArray, List.set_cons_zero, List.set_cons_succ]
        refine wpAnyH_take (i := 6) (v := ?_) rfl (by kernel_rfl) (by kernel_rfl) (by kernel_rfl) (fun _ _ _ h => h) (Or.inl ⟨by rfl, ?_⟩) hS ?_
        rotate_left
        · intro w _; go_simp; try with_reducible rfl
        simp only [List.getElem_toArray, List.getElem_cons_zero, List.getElem_cons_succ, Act.put, List.setIfInBounds_toArray, List.set_cons_zero, List.set_cons_succ]
        obtain ⟨W, hW⟩ : ∃ W, W = World.drew wr := ⟨_, rfl⟩
        have hBW : Below w.heap.size w W := by rw [hW]; exact below_drewN hB 1
        have glW : gR < W.heap.size := by rw [hW]; exact gl
        rw [← hW] at hS ⊢
        have q1 := rl W hBW
        clear hW hB gl cl
        refine wpAnyH_ready (rs := [7]) (by kernel_rfl) (by simp) ?_
        refine AllReadyH.cons rfl (fun K hK => ?_) AllReadyH.nil
        rw [if_pos (by rfl)]
        simp only [List.getElem_toArray, List.getElem_cons_zero, List.getElem_cons_succ]
        go_simp
        refine q1.mono ?_; rintro e_ w2 ⟨v2, rfl, hv2, hb2⟩
        obtain ⟨a4, k4, rfl, s4⟩ := hv2.ss (hsh_u8 q)
        rw [hsh_len, ← HN.out]
        dsimp only
        refine hK.out _ _ ⟨by rw [World.cell?_of_block (w := W) (hb2.block gR glW)]; exact hS.1, hS.2.below hb2⟩ (fun hS => ?_)
        have hB2 := hBW.trans (hb2.mono hBW.size)
        have gl2 : gR < w2.heap.size := Nat.lt_of_lt_of_le glW hb2.size
        have q2 := rr w2 a4 k4 s4 hB2
        unfold StrPost at q2
        clear q1 hBW hv2 hb2 s4 glW
        refine wpAnyH_ready (rs := [8]) (by kernel_rfl) (by simp) ?_
        refine AllReadyH.cons rfl (fun K hK => ?_) AllReadyH.nil
        rw [if_pos (by rfl)]
        simp only [List.getElem_toArray, List.getElem_cons_zero, List.getElem_cons_succ]
        go_simp
        refine q2.mono ?_; rintro e_ w3 ⟨rfl, hb3⟩
        dsimp only
        refine hK.out _ _ ⟨by rw [World.cell?_of_block (w := w2) (hb3.block gR gl2)]; exact hS.1, hS.2.below hb3⟩ (fun hS => ?_)
        refine wpAnyH_take (i := 9) (v := ?_) rfl (by kernel_rfl) (by kernel_rfl) (by kernel_rfl) (fun _ _ _ h => h) (Or.inl ⟨by rfl, ?_⟩) hS ?_
        rotate_left
        · intro w _; go_simp; try with_reducible rfl
        simp only [List.getElem_toArray, List.getElem_cons_zero, List.getElem_cons_succ, Act.put, List.setIfInBounds_toArray, List.set_cons_zero, List.set_cons_succ]
        refine wpAnyH_take (i := 10) (v := ?_) rfl (by kernel_rfl) (by kernel_rfl) (by kernel_rfl) (fun _ _ _ h => h) (Or.inl ⟨by rfl, ?_⟩) hS ?_
        rotate_left
        · intro w _; go_simp; try with_reducible rfl
        simp only [List.getElem_toArray, List.getElem_cons_zero, List.getElem_cons_succ, Act.put, List.setIfInBounds_toArray, List.set_cons_zero, List.set_cons_succ]
        refine wpAnyH_done (by kernel_rfl) ?_ _
        clear q2 hS rl rr
        go_wp2_with fail
        go_ret
        exact ⟨rfl, hB2.trans (hb3.mono hB2.size)⟩
  · rw [if_neg h60] at lq
    obtain ⟨n, hn⟩ : ∃ n, n = n0 := ⟨_, rfl⟩
    have hn60 : n ≤ 60 := by omega
    subst hn
    have HN := Lib.hid lq.symm
    have g1 : decide ((60 : Int) < (n : Int)) = false := decide_eq_false (by omega)
    have g2 : decide (60 < n) = false := decide_eq_false h60
    have g3 : ¬ (60 : Int) < (n : Int) := by omega
    clear lq nc
    go_enter Tryd.func10, Tryd.ntmps10
    go_wp2_with fail
    refine c0.mono ?_; rintro e_ w1 ⟨g, rfl, hl1, hb1⟩
    have c1 : Calls Tryd.prog 30 #[.pointer (some ⟨g, 0, none⟩), .int .i64 0] w1 (fun e w' => ∃ v, e = .returned (.tuple #[v, .int .i64 0]) ∧ New w1.heap.size .u8 5 w' v (rootB []) ∧ Below w1.heap.size w1 w') := by
      have := LogRoot_c _ g [] 0 w1 hl1 (by simp) (ht.below hb1)
      rw [if_pos ⟨Int.le_refl _, by simp⟩] at this
      refine this.mono fun e w' h => ?_
      obtain ⟨v, h1, h2, _, h3⟩ := h
      exact ⟨v, h1, h2, h3⟩
    clear c0
    go_wp2_with fail
    refine c1.mono ?_; rintro e_ w2 ⟨v0, rfl, n0', hb2⟩
    have dr0 : Dig (rootB []) := root_dig _ _ _ (fun d hd => by cases hd)
    have hB2 := hb1.trans (hb2.mono hb1.size)
    have hl2 := hl1.keep hb2
    have L0 := Lists.oneL (T := 25) (n0'.mono hb1.size) hB2.size
    obtain ⟨a0, k0, rfl, -⟩ := n0'.at_own
    rw [dr0.1] at L0 ⊢
    have al := (Below.refl w2.heap.size w2).alloc (Nat.le_refl _) (.cells #[.slice a0 32 k0] 25)
    have hB3 := hB2.trans (al.mono hB2.size)
    have hl3 := hl2.keep al
    have start : Hid (∀ j, j < 0 + 1 → (fun _ => rootB []) j = rootB ((hsh q).take j)) := Lib.hid fun j hj => by
      obtain rfl : j = 0 := by omega
      rfl
    clear c1 n0' hb1 hb2 hl1 hl2 hB2 al hB dr0
    go_wp2_with fail
    clear g1 g2 g3
    go_loopw [8, 9] (fun r t wr => ∃ (i : Nat) (V : Nat → Value) (AV : Nat → List Int), i ≤ n ∧ t = .int .i64 (i : Int) ∧ LogAt w.heap.size wr g ((hsh q).take i) ∧ Lists w.heap.size .u8 5 25 wr r (i + 1) V AV ∧ Hid (∀ j, j < i + 1 → AV j = rootB ((hsh q).take j)) ∧ Below w.heap.size w wr) (fun _ t _ => n - (intOf t).toNat)
    case atStart => exact ⟨0, _, _, by omega, rfl, hl3, L0, start, hB3⟩
    case round =>
      clear hl3 L0 start hB3
      obtain ⟨i, V, AV, hi, rfl, hl, hL, HA, hB⟩ := hrel
      obtain ⟨aR, cR, rfl⟩ := hL.sl
      by_cases hlt : i < n
      · have hd : decide ((i : Int) < (n : Int)) = true := decide_eq_true (by omega)
        have hii : (i : Int) < (n : Int) := by omega
        have hiq : Hid (i < q.length) := Lib.hid (by rw [← HN.out]; exact hlt)
        obtain ⟨b, off, rfl, hc⟩ := (sq.below hB).at_ (by have := hiq.out; omega)
        have cell := hc i hiq.out
        obtain ⟨s, hs⟩ : ∃ s, s = q[i]'hiq.out := ⟨_, rfl⟩
        rw [← hs] at cell
        have us : U8 s := by rw [hs]; exact uq _ (List.getElem_mem _)
        have ls : s.length ≤ 1048576 := by rw [hs]; exact tq _ (List.getElem_mem _)
        have ET : Hid ((hsh q).take (i + 1) = (hsh q).take i ++ [leafD s]) := Lib.hid (by rw [hsh_take q i hiq.out, hs])
        have LT : Hid (((hsh q).take i).length = i ∧ ((hsh q).take (i + 1)).length = i + 1) := Lib.hid (by
          have := hiq.out
          constructor
          · rw [List.length_take, hsh_len]; omega
          · rw [List.length_take, hsh_len]; omega)
        obtain ⟨w3, cb, hcv, s3, hb3⟩ := run_bytes_of (P := Tryd.prog) wr 9 25 5 Tryd.underlying9 Tryd.underlying25 Tryd.underlying5 us (by omega)
        have hB3 := hB.trans (hb3.mono hB.size)
        have hl3 := hl.keep hb3
        have hL3 := hL.keep hb3
        have c2 := LogAppend_c w.heap.size g _ _ cb s w3 hl3 s3 us (by omega) hB3.size (ht.below hB3)
        unfold AppPost at c2
        rw [LT.out.1, ← ET.out] at c2
        simp only [show ¬ 65536 ≤ i by omega, if_false] at c2
        clear hs hc hb3 s3 hl hL hB
        go_wp2_with fail
        refine c2.mono ?_; rintro e_ w4 ⟨rfl, hl4, hb4, k4⟩
        have hB4 := hB3.trans hb4
        have hL4 := KeepT.lists k4 hL3 (by decide) (by decide) (by decide) (by decide)
        clear c2 hb4 k4 hl3 hL3 hB3 cell hcv
        obtain ⟨E, hE⟩ : ∃ E, E = (hsh q).take (i + 1) := ⟨_, rfl⟩
        have HE := Lib.hid hE
        rw [← hE] at hl4
        have DE : ∀ d ∈ E, Dig d := fun d hd => hsh_dig q d (by rw [hE] at hd; exact List.mem_of_mem_take hd)
        have LE : Hid (E.length = i + 1) := Lib.hid (by rw [hE]; exact LT.out.2)
        have ETK : Hid (∀ j, j ≤ i → E.take j = (hsh q).take j) := Lib.hid fun j hj => by rw [HE.out, List.take_take, Nat.min_eq_left (by omega)]
        have RT := fun (W : World) (j : Nat) (hj : j ≤ i + 1) (hl : LogAt w.heap.size W g E) (hb : Below w.heap.size w W) =>
          (show Calls Tryd.prog 30 #[.pointer (some ⟨g, 0, none⟩), .int .i64 (j : Int)] W (fun e w' => ∃ v, e = .returned (.tuple #[v, .int .i64 0]) ∧ New W.heap.size .u8 5 w' v (rootB (E.take j)) ∧ Below W.heap.size W w') by
            have := LogRoot_c w.heap.size g E (j : Int) W hl (by rw [LE.out]; omega) (ht.below hb)
            rw [LE.out, if_pos ⟨by omega, by omega⟩, Int.toNat_natCast] at this
            refine this.mono fun e w' h => ?_
            obtain ⟨v, h1, h2, _, h3⟩ := h
            exact ⟨v, h1, h2, h3⟩)
        have DR : Hid (∀ j, Dig (rootB (E.take j))) := Lib.hid fun j => root_dig _ _ _ (fun d hd => DE d (List.mem_of_mem_take hd))
        obtain ⟨w5, rfl⟩ : ∃ x, x = w4 := ⟨_, rfl⟩
        clear hE
        go_wp2_with fail
        go_loopw [10] (fun t wr => ∃ k : Nat, k ≤ i + 1 ∧ t = .int .i64 (k : Int) ∧ Below w5.heap.size w5 wr) (fun t _ => i + 1 - (intOf t).toNat)
        case atStart => exact ⟨0, by omega, rfl, .refl _ _⟩
        case round =>
          clear hd
          obtain ⟨k, hk, rfl, hb⟩ := hrel
          have hBr := hB4.trans (hb.mono hB4.size)
          have hlr := hl4.keep hb
          have hLr := hL4.keep hb
          by_cases hkl : k < i + 1
          · have hd : decide ((k : Int) < (i : Int) + 1) = true := decide_eq_true (by omega)
            have hd2 : (k : Int) < (i : Int) + 1 := by omega
            have hd3 : decide (k < i + 1) = true := decide_eq_true hkl
            obtain ⟨r, hr_⟩ : ∃ r, r = rootB (E.take k) := ⟨_, rfl⟩
            have dr : Dig r := by rw [hr_]; exact DR.out k
            have c3 := RT wr k (by omega) hlr hBr
            rw [← hr_] at c3
            have er : AV k = r := by rw [hr_, ETK.out k (by omega)]; exact HA.out k hkl
            have ER := Lib.hid er
            clear hr_ er
            go_wp2_with fail
            refine c3.mono ?_; rintro e_ w6 ⟨v, rfl, nv, hb6⟩
            obtain ⟨gR, x, kx, eR, gl, cl, sx⟩ := (hLr.keep hb6).at_ hkl ER.out dr
            cases eR
            obtain ⟨av, cv, rfl, sv, -⟩ := nv.at_own
            rw [dr.1] at nv ⊢
            have se := str_eq dr.2 dr.2
            rw [decide_eq_true (show r = r from rfl)] at se
            have hb7 := hb.trans (hb6.mono hb.size)
            have SV := Lib.hid sv
            have SX := Lib.hid sx
            clear c3 hlr hLr hBr hb hb6 nv sv sx
            go_wp2_with fail
            refine wp_region_held_drew (S := fun W => W.cell? ⟨gR, k, none⟩ = some (.slice x 32 kx) ∧ Sl .u8 W x kx r ∧ Sl .u8 W av cv r) (by kernel_rfl) (⟨cl, SX.out.below (below_drewN (.refl _ _) 1), SV.out.below (below_drewN (.refl _ _) 1)⟩) (fun hS => ?_)
            refine wpAnyH_take (i := 0) (v := ?_) rfl (by kernel_rfl) (by kernel_rfl) (by kernel_rfl) (fun _ _ _ h => h) (Or.inl ⟨by rfl, ?_⟩) hS ?_
            rotate_left
            · intro w _; go_simp; try with_reducible rfl
            simp only [List.getElem_toArray, List.getElem_cons_zero, List.getElem_cons_succ, Act.put, List.setIfInBounds_toArray, List.set_cons_zero, List.set_cons_succ]
            refine wpAnyH_take (i := 1) (v := ?_) rfl (by kernel_rfl) (by kernel_rfl) (by kernel_rfl) (fun _ _ _ h => h) (Or.inl ⟨by rfl, ?_⟩) hS ?_
            rotate_left
            · intro w _; go_simp; try with_reducible rfl
            simp only [List.getElem_toArray, List.getElem_cons_zero, List.getElem_cons_succ, Act.put, List.setIfInBounds_toArray, List.set_cons_zero, List.set_cons_succ]
            refine wpAnyH_take (i := 2) (v := ?_) rfl (by kernel_rfl) (by kernel_rfl) (by kernel_rfl) (fun _ _ _ h => h) (Or.inl ⟨by rfl, ?_⟩) hS ?_
            rotate_left
            · intro w _; go_simp; try with_reducible rfl
            simp only [List.getElem_toArray, List.getElem_cons_zero, List.getElem_cons_succ, Act.put, List.setIfInBounds_toArray, List.set_cons_zero, List.set_cons_succ]
            refine wpAnyH_take (i := 3) (v := ?_) rfl (by kernel_rfl) (by kernel_rfl) (by kernel_rfl) (fun _ _ _ h => h) (Or.inl ⟨by rfl, ?_⟩) hS ?_
            rotate_left
            · intro w _; go_simp; try with_reducible rfl
            simp only [List.getElem_toArray, List.getElem_cons_zero, List.getElem_cons_succ, Act.put, List.setIfInBounds_toArray, List.set_cons_zero, List.set_cons_succ]
            refine wpAnyH_take (i := 4) (v := (str r)) rfl (by kernel_rfl) (by kernel_rfl) (by kernel_rfl) (fun _ _ _ h => h) (Or.inl ⟨by rfl, ?_⟩) hS ?_
            · intro W_ hW_; have hc_ := run_str_of (P := Tryd.prog) W_ 25 9 5 Tryd.underlying25 Tryd.underlying5 Tryd.underlying9 32 dr.1.symm hW_.2.2; go_simp; try with_reducible rfl
            simp only [List.getElem_toArray, List.getElem_cons_zero, List.getElem_cons_succ, Act.put, List.setIfInBounds_toArray, List.set_cons_zero, List.set_cons_succ]
            refine wpAnyH_take (i := 5) (v := ?_) rfl (by kernel_rfl) (by kernel_rfl) (by kernel_rfl) (fun _ _ _ h => h) (Or.inl ⟨by rfl, ?_⟩) hS ?_
            rotate_left
            · intro w _; go_simp; try with_reducible rfl
            simp only [List.getElem_toArray, List.getElem_cons_zero, List.getElem_cons_succ, Act.put, List.setIfInBounds_toArray, List.set_cons_zero, List.set_cons_succ]
            refine wpAnyH_take (i := 6) (v := ?_) rfl (by kernel_rfl) (by kernel_rfl) (by kernel_rfl) (fun _ _ _ h => h) (Or.inl ⟨by rfl, ?_⟩) hS ?_
            rotate_left
            · intro w _; go_simp; try with_reducible rfl
            simp only [List.getElem_toArray, List.getElem_cons_zero, List.getElem_cons_succ, Act.put, List.setIfInBounds_toArray, List.set_cons_zero, List.set_cons_succ]
            refine wpAnyH_take (i := 7) (v := ?_) rfl (by kernel_rfl) (by kernel_rfl) (by kernel_rfl) (fun _ _ _ h => h) (Or.inl ⟨by rfl, ?_⟩) hS ?_
            rotate_left
            · intro w _; go_simp; try with_reducible rfl
            simp only [List.getElem_toArray, List.getElem_cons_zero, List.getElem_cons_succ, Act.put, List.setIfInBounds_toArray, List.set_cons_zero, List.set_cons_succ]
            refine wpAnyH_take (i := 8) (v := ?_) rfl (by kernel_rfl) (by kernel_rfl) (by kernel_rfl) (fun _ _ _ h => h) (Or.inl ⟨by rfl, ?_⟩) hS ?_
            rotate_left
            · intro W_ hW_; obtain ⟨c1_, c2_⟩ := hW_; go_simp; try with_reducible rfl
            simp only [List.getElem_toArray, List.getElem_cons_zero, List.getElem_cons_succ, Act.put, List.setIfInBounds_toArray, List.set_cons_zero, List.set_cons_succ]
            refine wpAnyH_take (i := 9) (v := (str r)) rfl (by kernel_rfl) (by kernel_rfl) (by kernel_rfl) (fun _ _ _ h => h) (Or.inl ⟨by rfl, ?_⟩) hS ?_
            · intro W_ hW_; have hc_ := run_str_of (P := Tryd.prog) W_ 25 9 5 Tryd.underlying25 Tryd.underlying5 Tryd.underlying9 32 dr.1.symm hW_.2.1; go_simp; try with_reducible rfl
            simp only [List.getElem_toArray, List.getElem_cons_zero, List.getElem_cons_succ, Act.put, List.setIfInBounds_toArray, List.set_cons_zero, List.set_cons_succ]
            refine wpAnyH_take (i := 10) (v := ?_) rfl (by kernel_rfl) (by kernel_rfl) (by kernel_rfl) (fun _ _ _ h => h) (Or.inl ⟨by rfl, ?_⟩) hS ?_
            rotate_left
            · intro w _; go_simp; try with_reducible rfl
            simp only [List.getElem_toArray, List.getElem_cons_zero, List.getElem_cons_succ, Act.put, List.setIfInBounds_toArray, List.set_cons_zero, List.set_cons_succ]
            refine wpAnyH_take (i := 11) (v := ?_) rfl (by kernel_rfl) (by kernel_rfl) (by kernel_rfl) (fun _ _ _ h => h) (Or.inl ⟨by rfl, ?_⟩) hS ?_
            rotate_left
            · intro w _; go_simp; try with_reducible rfl
            simp only [List.getElem_toArray, List.getElem_cons_zero, List.getElem_cons_succ, Act.put, List.setIfInBounds_toArray, List.set_cons_zero, List.set_cons_succ]
            refine wpAnyH_done (by kernel_rfl) ?_ _
            clear hS cl
            have hb8 : Below w5.heap.size w5 (World.drew w6) := below_drewN hb7 1
            clear hb7
            go_wp2_with fail
            go_roundw
            case rel => exact ⟨k + 1, by omega, by go_num, hb8⟩
            case measure => simp [intOf]; omega
          · obtain rfl : k = i + 1 := by omega
            have hd : decide ((i : Int) + 1 < (i : Int) + 1) = false := by simp
            have c3 := RT wr (i + 1) (by omega) hlr hBr
            obtain ⟨now, hnow⟩ : ∃ r, r = rootB E := ⟨_, rfl⟩
            have HNOW := Lib.hid hnow
            have dn : Dig now := by rw [hnow]; exact root_dig _ _ _ DE
            rw [List.take_of_length_le (by rw [LE.out]; exact Nat.le_refl _), ← hnow] at c3
            rw [show ((i + 1 : Nat) : Int) = (i : Int) + 1 by omega] at c3
            clear hnow hl4 hL4 hB4 hb hkl
            go_wp2_with fail
            refine c3.mono ?_; rintro e_ w6 ⟨v, rfl, nv, hb6⟩
            have hB6 := hBr.trans (hb6.mono hBr.size)
            have hl6 := hlr.keep hb6
            have hfr : ∀ g, v.ownBlock = some g → wr.heap.size ≤ g := fun g hg => (nv.lt g hg).1
            have NV := Lib.hid nv
            obtain ⟨V1, A1, f1, r1, a1, e1, s1, t1⟩ := hLr.fam.push' (nv.mono hBr.size) hb6 hfr
            obtain ⟨av, cv, rfl, sv, -⟩ := nv.at_own
            rw [dn.1] at r1 t1 ⊢
            have al := (Below.refl w6.heap.size w6).alloc (Nat.le_refl _) (.cells #[.slice av 32 cv] 25)
            have row2 := (hLr.row.keep hb6).keep al
            have f2 := f1.keep al
            have hB7 := hB6.trans (al.mono hB6.size)
            have hl7 := hl6.keep al
            have sv7 := sv.below al
            have as1 : (w6.alloc (.cells #[.slice av 32 cv] 25)).heap.size = w6.heap.size + 1 := by simp
            have R1 := Lib.hid r1
            have A2 : Hid (∀ j, j < i + 1 + 1 → A1 j = rootB ((hsh q).take j)) := Lib.hid fun j hj => by
              by_cases c : j < i + 1
              · rw [a1 j c]; exact HA.out j c
              · obtain rfl : j = i + 1 := by omega
                rw [e1, HNOW.out, HE.out]
            have LK : Hid (((List.range (i + 1)).map V).length = i + 1) := Lib.hid (by simp)
            have lv := fun g hg => (row2.lt g hg).1
            have nvl : ∀ g, (Value.slice av 32 cv).ownBlock = some g → some g ≠ (Value.slice aR (i + 1) cR).ownBlock := fun g hg => by
              have hh := NV.out
              rw [dn.1] at hh
              exact (hLr.row.keep hb6).aside' hh (by decide) g hg
            have NVL := Lib.hid nvl
            obtain ⟨us, hus⟩ : ∃ us, us = (List.range (i + 1)).map V := ⟨_, rfl⟩
            have HUS := Lib.hid hus
            rw [← hus] at row2 LK
            clear hus
            clear c3 nv hfr hLr r1 a1 e1 s1 t1 f1 hb6 al hBr hlr hB6 hl6 sv nvl HA
            go_wp2_with (at_builtin; refine wpList_append_newV _ rfl _ _ 23 rfl w.heap.size 25 24 Tryd.underlying23 infoL _ _ rfl row2 _ 1 (.slice av 32 cv) ⟨_, _, _, rfl⟩ rfl (cell_new1 _ _ _ _) (by rw [LK.out]; omega) (by rw [LK.out]; omega) hB7.size ?_)
            intro l8 w8 hv8 hg8 ho8
            rw [HUS.out] at row2 hv8
            have hL8 := Lists.grow row2 f2 (by decide) hv8 hg8 R1.out
            have hl8 := hl7.by_blocks (w' := w8) (fun c cs T z hc hT => by
              rw [hg8.block c (Array.getElem?_eq_some_iff.1 hc).1 (fun e => by
                obtain ⟨cs', hh⟩ := NewV.heapT row2 e.symm
                rw [hc] at hh
                simp only [Option.some.injEq, Obj.cells.injEq] at hh
                rcases hT with h | h <;> rw [h] at hh <;> exact absurd hh.2.1 (by decide))]
              exact hc)
            have hB8 := hB7.grown hg8 hB7.size lv
            have sv8 : Sl .u8 w8 av cv now := sv7.grown' hg8 (fun b off e _ e2 => NVL.out b (by rw [e]; rfl) e2)
            clear row2 f2 hv8 hg8 ho8 hB7 hl7 lv as1 R1 LK sv7
            obtain ⟨aS, cS, rfl⟩ := hL8.sl
            have wi1 : IntKind.i64.wrap ((i : Int) + 1) = (i : Int) + 1 := by rw [IntKind.wrap_i64]; omega
            have GR := fun (W : World) (j : Nat) (hj : j ≤ i) (hl : LogAt w.heap.size W g E) (hb : Below w.heap.size w W) =>
              (show Calls Tryd.prog 38 #[.pointer (some ⟨g, 0, none⟩), .int .i64 (j : Int), .int .i64 ((i : Int) + 1)] W (fun e w' => ∃ v, e = .returned (.tuple #[v, .int .i64 0]) ∧ OwnLists (growB E j) W.heap.size w' v ∧ Below W.heap.size W w') by
                have := LogGrowth_c w.heap.size g E ((i : Int) + 1) (j : Int) W hl (by rw [LE.out]; omega) (ht.below hb)
                rw [LE.out, if_pos ⟨⟨by omega, by omega⟩, by omega, by omega⟩, Int.toNat_natCast, show ((i : Int) + 1).toNat = i + 1 by omega, List.take_of_length_le (by rw [LE.out]; exact Nat.le_refl _)] at this
                refine this.mono fun e w' h => ?_
                obtain ⟨v, h1, h2, h3⟩ := h
                exact ⟨v, h1, h2, h3⟩)
            have GN := fun (W : World) (j : Nat) (hj : j ≤ i) (xo : Option Addr) (ko : Nat) (so : Sl .u8 W xo ko (rootB (E.take j))) (sn : Sl .u8 W av cv now) (ap : Option Addr) (cp n9 : Nat) (hn9 : n9 = (growB E j).length) (ho : OwnLists (growB E j) W.heap.size W (.slice ap n9 cp) ∨ ∃ B, OwnLists (growB E j) B W (.slice ap n9 cp)) (hb : Below w.heap.size w W) =>
              (show Calls Tryd.prog 24 #[.slice xo 32 ko, .int .i64 (j : Int), .slice av 32 cv, .int .i64 ((i : Int) + 1), .slice ap n9 cp] W (TellPost true W) by
                obtain ⟨B9, ho⟩ : ∃ B, OwnLists (growB E j) B W (.slice ap n9 cp) := by
                  rcases ho with h | h
                  · exact ⟨_, h⟩
                  · exact h
                obtain ⟨ps, lps, rps, xps⟩ := OwnLists.rows hn9 ho (growB_dig DE j)
                have q3 := Grown_c xo av ap ko cv cp (rootB (E.take j)) now ps (j : Int) ((i : Int) + 1) W so (DR.out j).2 sn dn.2 rps (by have := growB_le E j; omega) (by omega) (ht.below hb)
                rw [(DR.out j).1, dn.1, lps, xps] at q3
                rw [decide_eq_true (show growP (rootB (E.take j)) (j : Int) now ((i : Int) + 1) (growB E j) by
                  have h := growB_shows DE (m := j) (by rw [LE.out]; omega) (by rw [LE.out]; omega)
                  rw [LE.out] at h
                  rw [HNOW.out]
                  exact h)] at q3
                exact q3)
            have ATR := fun (W : World) (j : Nat) (hj : j ≤ i) (hL : Lists w.heap.size .u8 5 25 W (.slice aS (i + 1 + 1) cS) (i + 1 + 1) V1 A1) => hL.at_ (i := j) (by omega) (d := rootB (E.take j)) (by rw [ETK.out j hj]; exact A2.out j (by omega)) (DR.out j)
            have c4 := GR w8 i (Nat.le_refl _) hl8 hB8
            go_wp2_with fail
            refine c4.mono ?_; rintro e_ w9 ⟨vp, rfl, op, hb9⟩
            obtain ⟨ap, cp, rfl⟩ := op.sl
            have hB9 := hB8.trans (hb9.mono hB8.size)
            have hl9 := hl8.keep hb9
            have hL9 := hL8.keep hb9
            have sv9 := sv8.below hb9
            obtain ⟨gR, xo, ko, eR, gl, cl, so⟩ := ATR w9 i (Nat.le_refl _) hL9
            cases eR
            obtain ⟨n9, hn9⟩ : ∃ z, z = (growB E i).length := ⟨_, rfl⟩
            rw [← hn9] at op ⊢
            have c5 := GN w9 i (Nat.le_refl _) xo ko so sv9 ap cp n9 hn9 (.inr ⟨_, op⟩) hB9
            unfold TellPost at c5
            have ai1 : (i : Int) < (i : Int) + 1 + 1 := by omega
            clear c4 hn9 op hb9 so hl8 hL8 sv8 hB8
            go_wp2_with fail
            refine c5.mono ?_; rintro e_ wa ⟨rfl, hba⟩
            have hBa := hB9.trans (hba.mono hB9.size)
            have hla := hl9.keep hba
            have hLa := hL9.keep hba
            have sva := sv9.below hba
            clear c5 hba hl9 hL9 sv9 hB9 cl gl
            by_cases hm0 : 0 ≤ m
            · have f0 : decide (0 ≤ m) = true := decide_eq_true hm0
              obtain ⟨M, rfl⟩ : ∃ M : Nat, m = (M : Int) := ⟨m.toNat, by omega⟩
              by_cases hmi : M ≤ i
              · have f1 : decide ((M : Int) ≤ (i : Int)) = true := decide_eq_true (by omega)
                have f2 : decide (M ≤ i) = true := decide_eq_true hmi
                have f3 : (M : Int) ≤ (i : Int) := by omega
                have c6 := GR wa M hmi hla hBa
                go_wp2_with fail
                refine c6.mono ?_; rintro e_ wb ⟨vq, rfl, oq, hbb⟩
                obtain ⟨aq, cq, rfl⟩ := oq.sl
                have hBb := hBa.trans (hbb.mono hBa.size)
                have hlb := hla.keep hbb
                have hLb := hLa.keep hbb
                have svb := sva.below hbb
                obtain ⟨_, x2, k2, eR, gl, cl, so⟩ := ATR wb M hmi hLb
                cases eR
                obtain ⟨n8, hn8⟩ : ∃ z, z = (growB E M).length := ⟨_, rfl⟩
                rw [← hn8] at oq ⊢
                have c7 := GN wb M hmi x2 k2 so svb aq cq n8 hn8 (.inr ⟨_, oq⟩) hBb
                unfold TellPost at c7
                have ai2 : (M : Int) < (i : Int) + 1 + 1 := by omega
                clear c6 hn8 oq hbb so hla hLa sva hBa
                go_wp2_with fail
                refine c7.mono ?_; rintro e_ wc ⟨rfl, hbc⟩
                have hBc := hBb.trans (hbc.mono hBb.size)
                have hlc := hlb.keep hbc
                have hLc := hLb.keep hbc
                rw [HE.out] at hlc
                clear c7 hbc hlb hLb svb hBb cl gl GR GN ATR RT
                go_wp2_with fail
                go_roundw
                case rel => exact ⟨i + 1, V1, A1, by omega, by go_num, hlc, hLc, A2, hBc⟩
                case measure => simp [intOf]; omega
              · have f1 : decide ((M : Int) ≤ (i : Int)) = false := decide_eq_false (by omega)
                have f2 : decide (M ≤ i) = false := decide_eq_false hmi
                have f3 : ¬ (M : Int) ≤ (i : Int) := by omega
                rw [HE.out] at hla
                clear GR GN ATR RT
                go_wp2_with fail
                go_roundw
                case rel => exact ⟨i + 1, V1, A1, by omega, by go_num, hla, hLa, A2, hBa⟩
                case measure => simp [intOf]; omega
            · have f0 : decide (0 ≤ m) = false := decide_eq_false hm0
              rw [HE.out] at hla
              clear GR GN ATR RT
              go_wp2_with fail
              go_roundw
              case rel => exact ⟨i + 1, V1, A1, by omega, by go_num, hla, hLa, A2, hBa⟩
              case measure => simp [intOf]; omega
      · obtain rfl : i = n := by omega
        have hd : decide ((i : Int) < (i : Int)) = false := by simp
        have EH : Hid ((hsh q).take i = hsh q) := Lib.hid (List.take_of_length_le (by rw [hsh_len, ← HN.out]; exact Nat.le_refl _))
        obtain ⟨r, hr_⟩ : ∃ r, r = rootB (hsh q) := ⟨_, rfl⟩
        have HR_ := Lib.hid hr_
        have dr : Dig r := by rw [hr_]; exact root_dig _ _ _ (hsh_dig q)
        obtain ⟨gR, x, kx, eR, gl, cl, sx⟩ := hL.at_ (i := i) (by omega) (d := r) (by rw [HA.out i (by omega), EH.out, hr_]) dr
        cases eR
        have rl := fun (W : World) (hb : Below w.heap.size w W) =>
          (show Calls Tryd.prog 14 #[.slice A i ca] W (StrsPost (hsh q) W) by
            have := rLeaves_c A ca q W (sq.below hb) (fun s hs => by have := tq s hs; omega) (by rw [← HN.out]; omega) (hr.below hb)
            rwa [← HN.out] at this)
        have rr := fun (W : World) (M : Option Addr) (cM : Nat) (hx : Ss W M cM (hsh q)) (hb : Below w.heap.size w W) =>
          (show Calls Tryd.prog 13 #[.slice M i cM] W (StrPost r W) by
            have := rRoot_c M cM (hsh q) W hx (hsh_dig q) (by rw [hsh_len, ← HN.out]; omega) (hr.below hb)
            rwa [hsh_len, ← HN.out, ← HR_.out] at this)
        unfold StrsPost at rl
        have se := str_eq dr.2 dr.2
        rw [decide_eq_true (show r = r from rfl)] at se
        have ii1 : (i : Int) < (i : Int) + 1 := by omega
        have SX := Lib.hid sx
        clear hl hL HA hr_ sx
        go_wp2_with fail
        refine wp_region_held_drew (S := fun W => W.cell? ⟨gR, i, none⟩ = some (.slice x 32 kx) ∧ Sl .u8 W x kx r) (by kernel_rfl) (⟨cl, SX.out.below (below_drewN (.refl _ _) 1)⟩) (fun hS => ?_)
        refine wpAnyH_take (i := 0) (v := ?_) rfl (by kernel_rfl) (by kernel_rfl) (by kernel_rfl) (fun _ _ _ h => h) (Or.inl ⟨by rfl, ?_⟩) hS ?_
        rotate_left
        · intro w _; go_simp; try with_reducible rfl
        simp only [List.getElem_toArray, List.getElem_cons_zero, List.getElem_cons_succ, Act.put, List.setIfInBounds_toArray, List.set_cons_zero, List.set_cons_succ]
        refine wpAnyH_take (i := 1) (v := ?_) rfl (by kernel_rfl) (by kernel_rfl) (by kernel_rfl) (fun _ _ _ h => h) (Or.inl ⟨by rfl, ?_⟩) hS ?_
        rotate_left
        · intro w _; go_simp; try with_reducible rfl
        simp only [List.getElem_toArray, List.getElem_cons_zero, List.getElem_cons_succ, Act.put, List.setIfInBounds_toArray, List.set_cons_zero, List.set_cons_succ]
        refine wpAnyH_take (i := 2) (v := ?_) rfl (by kernel_rfl) (by kernel_rfl) (by kernel_rfl) (fun _ _ _ h => h) (Or.inl ⟨by rfl, ?_⟩) hS ?_
        rotate_left
        · intro w _; go_simp; try with_reducible rfl
        simp only [List.getElem_toArray, List.getElem_cons_zero, List.getElem_cons_succ, Act.put, List.setIfInBounds_toArray, List.set_cons_zero, List.set_cons_succ]
        refine wpAnyH_take (i := 3) (v := ?_) rfl (by kernel_rfl) (by kernel_rfl) (by kernel_rfl) (fun _ _ _ h => h) (Or.inl ⟨by rfl, ?_⟩) hS ?_
        rotate_left
        · intro w _; go_simp; try with_reducible rfl
        simp only [List.getElem_toArray, List.getElem_cons_zero, List.getElem_cons_succ, Act.put, List.setIfInBounds_toArray, List.set_cons_zero, List.set_cons_succ]
        refine wpAnyH_take (i := 4) (v := ?_) rfl (by kernel_rfl) (by kernel_rfl) (by kernel_rfl) (fun _ _ _ h => h) (Or.inl ⟨by rfl, ?_⟩) hS ?_
        rotate_left
        · intro W_ hW_; obtain ⟨c1_, c2_⟩ := hW_; go_simp; try with_reducible rfl
        simp only [List.getElem_toArray, List.getElem_cons_zero, List.getElem_cons_succ, Act.put, List.setIfInBounds_toArray, List.set_cons_zero, List.set_cons_succ]
        refine wpAnyH_take (i := 5) (v := (str r)) rfl (by kernel_rfl) (by kernel_rfl) (by kernel_rfl) (fun _ _ _ h => h) (Or.inl ⟨by rfl, ?_⟩) hS ?_
        · intro W_ hW_; have hc_ := run_str_of (P := Tryd.prog) W_ 25 9 5 Tryd.underlying25 Tryd.underlying5 Tryd.underlying9 32 dr.1.symm hW_.2; go_simp; try with_reducible rfl
        simp only [List.getElem_toArray, List.getElem_cons_zero, List.getElem_cons_succ, Act.put, List.setIfInBounds_toArray, List.set_cons_zero, List.set_cons_succ]
        refine wpAnyH_take (i := 6) (v := ?_) rfl (by kernel_rfl) (by kernel_rfl) (by kernel_rfl) (fun _ _ _ h => h) (Or.inl ⟨by rfl, ?_⟩) hS ?_
        rotate_left
        · intro w _; go_simp; try with_reducible rfl
        simp only [List.getElem_toArray, List.getElem_cons_zero, List.getElem_cons_succ, Act.put, List.setIfInBounds_toArray, List.set_cons_zero, List.set_cons_succ]
        obtain ⟨W, hW⟩ : ∃ W, W = World.drew wr := ⟨_, rfl⟩
        have hBW : Below w.heap.size w W := by rw [hW]; exact below_drewN hB 1
        have glW : gR < W.heap.size := by rw [hW]; exact gl
        rw [← hW] at hS ⊢
        have q1 := rl W hBW
        clear hW hB gl cl
        refine wpAnyH_ready (rs := [7]) (by kernel_rfl) (by simp) ?_
        refine AllReadyH.cons rfl (fun K hK => ?_) AllReadyH.nil
        rw [if_pos (by rfl)]
        simp only [List.getElem_toArray, List.getElem_cons_zero, List.getElem_cons_succ]
        go_simp
        refine q1.mono ?_; rintro e_ w2 ⟨v2, rfl, hv2, hb2⟩
        obtain ⟨a4, k4, rfl, s4⟩ := hv2.ss (hsh_u8 q)
        rw [hsh_len, ← HN.out]
        dsimp only
        refine hK.out _ _ ⟨by rw [World.cell?_of_block (w := W) (hb2.block gR glW)]; exact hS.1, hS.2.below hb2⟩ (fun hS => ?_)
        have hB2 := hBW.trans (hb2.mono hBW.size)
        have gl2 : gR < w2.heap.size := Nat.lt_of_lt_of_le glW hb2.size
        have q2 := rr w2 a4 k4 s4 hB2
        unfold StrPost at q2
        clear q1 hBW hv2 hb2 s4 glW
        refine wpAnyH_ready (rs := [8]) (by kernel_rfl) (by simp) ?_
        refine AllReadyH.cons rfl (fun K hK => ?_) AllReadyH.nil
        rw [if_pos (by rfl)]
        simp only [List.getElem_toArray, List.getElem_cons_zero, List.getElem_cons_succ]
        go_simp
        refine q2.mono ?_; rintro e_ w3 ⟨rfl, hb3⟩
        dsimp only
        refine hK.out _ _ ⟨by rw [World.cell?_of_block (w := w2) (hb3.block gR gl2)]; exact hS.1, hS.2.below hb3⟩ (fun hS => ?_)
        refine wpAnyH_take (i := 9) (v := ?_) rfl (by kernel_rfl) (by kernel_rfl) (by kernel_rfl) (fun _ _ _ h => h) (Or.inl ⟨by rfl, ?_⟩) hS ?_
        rotate_left
        · intro w _; go_simp; try with_reducible rfl
        simp only [List.getElem_toArray, List.getElem_cons_zero, List.getElem_cons_succ, Act.put, List.setIfInBounds_toArray, List.set_cons_zero, List.set_cons_succ]
        refine wpAnyH_take (i := 10) (v := ?_) rfl (by kernel_rfl) (by kernel_rfl) (by kernel_rfl) (fun _ _ _ h => h) (Or.inl ⟨by rfl, ?_⟩) hS ?_
        rotate_left
        · intro w _; go_simp; try with_reducible rfl
        simp only [List.getElem_toArray, List.getElem_cons_zero, List.getElem_cons_succ, Act.put, List.setIfInBounds_toArray, List.set_cons_zero, List.set_cons_succ]
        refine wpAnyH_done (by kernel_rfl) ?_ _
        clear q2 hS rl rr
        go_wp2_with fail
        go_ret
        exact ⟨rfl, hB2.trans (hb3.mono hB2.size)⟩
end Go.Proofs.YtmbifokiebjmmaaDoor
