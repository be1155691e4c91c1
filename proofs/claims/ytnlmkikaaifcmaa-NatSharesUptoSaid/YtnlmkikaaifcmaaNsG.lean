/- signetlaw6.anew by its contract. (Printed by gen_nsg.py.) -/
import Derived.Test.YtnlmkikaaifcmaaNsF
import Derived.Test.YtnlmkikaaifcmaaDrawn
import Derived.Deep.RegionHeld
import Derived.Laws.Rows
set_option linter.unusedVariables false
set_option linter.unusedSimpArgs false
namespace Go.Proofs.Ytnlmkikaaifcmaa
open Go.RowKit Go.Sg
theorem size32N : (Try.prog.info? 25).map (·.size) = some 1 := by kernel_rfl
set_option maxHeartbeats 8000000 in
set_option maxRecDepth 20000 in
theorem anew_c {ar : Option Addr} {cr cut k : Nat} {xs : List Int} {w : World} (sr : Sl .u32 w ar cr xs) (u : U32 xs) (hc : cut ≤ xs.length) (hl : xs.length ≤ 1048576) (hk : k ≤ 1024) :
    Calls Try.prog 12 #[.slice ar xs.length cr, .int .i64 (cut : Int), .int .i64 (k : Int)] w (fun e w' => e = .returned (.bool true) ∧ Below w.heap.size w w') := by
  have cp := copied_c ar cr xs w sr (by omega)
  unfold RowPost at cp
  obtain ⟨n, hn⟩ : ∃ n, n = xs.length := ⟨_, rfl⟩
  rw [← hn] at cp hc hl ⊢
  have HN := Lib.hid hn
  clear hn
  go_enter Try.func12, Try.ntmps12
  go_wp2_with fail
  refine cp.mono ?_; rintro e_ w1 ⟨v, rfl, nv, hB⟩
  obtain ⟨aa, ca, rfl, -⟩ := nv.sl
  rw [← HN.out] at nv ⊢
  have hp : Hid (xs.length = n ∧ U32 xs) := Lib.hid ⟨HN.out.symm, u⟩
  clear cp sr u HN
  go_wp2_with fail
  go_loopw [8] (fun t wr => ∃ (i : Nat) (z : List Int), i ≤ 10 ∧ t = .int .i64 (i : Int) ∧ New w.heap.size .u32 25 wr (.slice aa n ca) z ∧ Hid (z.length = n ∧ U32 z) ∧ Below w.heap.size w wr) (fun t _ => 10 - (intOf t).toNat)
  case atStart => exact ⟨0, xs, by omega, rfl, nv, hp, hB⟩
  case round =>
    clear nv hp hB
    obtain ⟨i, z, hi, rfl, nv, hp, hB⟩ := hrel
    by_cases hlt : i < 10
    · have hd : decide ((i : Int) < 10) = true := decide_eq_true (by omega)
      have hi10 : (i : Int) < 10 := by omega
      have rto := fun W => run_to (P := Try.prog) W 23 25 Try.underlying23 size32N aa n ca cut (by
        obtain ⟨a2, c2, hv, s2⟩ := nv.sl
        simp only [Value.slice.injEq] at hv
        obtain ⟨rfl, -, rfl⟩ := hv
        have := s2.le
        have := hp.out.1
        omega) (cut : Int) rfl
      have sz : Sl .u32 wr aa ca z := by
        obtain ⟨a2, c2, hv, s2⟩ := nv.sl
        simp only [Value.slice.injEq] at hv
        obtain ⟨rfl, -, rfl⟩ := hv
        exact s2
      obtain ⟨ad, sd, rdr⟩ := sz.from (P := Try.prog) (T := 23) (E := 25) Try.underlying23 size32N cut (by rw [hp.out.1]; exact hc)
      obtain ⟨p1, p2, L, N, ONE⟩ := one6_c i cut k z hp.out.2 (by rw [hp.out.1]; exact hc) (by rw [hp.out.1]; exact hl) hk hlt
      rw [hp.out.1] at rdr ONE
      have one1 := ONE wr aa aa ad ca ca (ca - cut) sz (sz.take cut) sd
      have one1d : ∀ W, Below wr.heap.size wr W → Calls Try.prog 29 #[.int .i64 (i : Int), .slice aa n ca, .slice aa cut ca, .slice ad (n - cut) (ca - cut), .int .i64 (k : Int)] W (OnePost p1 p2 L N W) := fun W hb => ONE W aa aa ad ca ca (ca - cut) (sz.below hb) ((sz.take cut).below hb) (sd.below hb)
      clear one1 ONE
      go_wp2_with fail
      refine wp_region_held_drew (S := fun W_ => True) (by kernel_rfl) (trivial) (fun hS => ?_)
      have hb := below_drewN (Below.refl wr.heap.size wr) 1
      obtain ⟨w2, hw_⟩ : ∃ x, x = World.drew wr := ⟨_, rfl⟩
      rw [show World.drewN wr 1 = w2 from hw_.symm] at hb
      rw [← hw_]
      clear hw_
      have oc := one1d w2 hb
      replace nv := nv.keep hb
      replace hB := hB.trans (hb.mono hB.size)
      clear hb one1d sz sd
      refine wpAnyH_take (i := 0) (v := ?_) rfl (by kernel_rfl) (by kernel_rfl) (by kernel_rfl) (fun _ _ _ h => h) (Or.inl ⟨by rfl, ?_⟩) hS ?_
      rotate_left
      · intro w _; go_simp; try with_reducible rfl
      simp only [List.getElem_toArray, List.getElem_cons_zero, List.getElem_cons_succ, Act.put, List.setIfInBounds_toArray, List.set_cons_zero, List.set_cons_succ]
      refine wpAnyH_take (i := 1) (v := ?_) rfl (by kernel_rfl) (by kernel_rfl) (by kernel_rfl) (fun _ _ _ h => h) (Or.inl ⟨by rfl, ?_⟩) hS ?_
      rotate_left
      · intro w _; go_simp; try with_reducible rfl
      simp only [List.getElem_toArray, List.getElem_cons_zero, List.getElem_cons_succ, Act.put, List.setIfInBounds_toArray, List.set_cons_zero, List.set_cons_succ]
      refine wpAnyH_take (i := 2) (v := ?_) rfl (by kernel_rfl) (by kernel_rfl) (by kernel_rfl) (fun _ _ _ h => h) (Or.inl ⟨by rfl, ?_⟩) hS ?_
      rotate_left
      · intro w _; go_simp; try with_reducible rfl
      simp only [List.getElem_toArray, List.getElem_cons_zero, List.getElem_cons_succ, Act.put, List.setIfInBounds_toArray, List.set_cons_zero, List.set_cons_succ]
      refine wpAnyH_take (i := 3) (v := ?_) rfl (by kernel_rfl) (by kernel_rfl) (by kernel_rfl) (fun _ _ _ h => h) (Or.inl ⟨by rfl, ?_⟩) hS ?_
      rotate_left
      · intro w _; go_simp; try with_reducible rfl
      simp only [List.getElem_toArray, List.getElem_cons_zero, List.getElem_cons_succ, Act.put, List.setIfInBounds_toArray, List.set_cons_zero, List.set_cons_succ]
      refine wpAnyH_take (i := 4) (v := ?_) rfl (by kernel_rfl) (by kernel_rfl) (by kernel_rfl) (fun _ _ _ h => h) (Or.inl ⟨by rfl, ?_⟩) hS ?_
      rotate_left
      · intro w _; go_simp; try with_reducible rfl
      simp only [List.getElem_toArray, List.getElem_cons_zero, List.getElem_cons_succ, Act.put, List.setIfInBounds_toArray, List.set_cons_zero, List.set_cons_succ]
      refine wpAnyH_take (i := 5) (v := ?_) rfl (by kernel_rfl) (by kernel_rfl) (by kernel_rfl) (fun _ _ _ h => h) (Or.inl ⟨by rfl, ?_⟩) hS ?_
      rotate_left
      · intro w _; go_simp; try with_reducible rfl
      simp only [List.getElem_toArray, List.getElem_cons_zero, List.getElem_cons_succ, Act.put, List.setIfInBounds_toArray, List.set_cons_zero, List.set_cons_succ]
      refine wpAnyH_take (i := 6) (v := ?_) rfl (by kernel_rfl) (by kernel_rfl) (by kernel_rfl) (fun _ _ _ h => h) (Or.inl ⟨by rfl, ?_⟩) hS ?_
      rotate_left
      · intro w _; go_simp; try with_reducible rfl
      simp only [List.getElem_toArray, List.getElem_cons_zero, List.getElem_cons_succ, Act.put, List.setIfInBounds_toArray, List.set_cons_zero, List.set_cons_succ]
      refine wpAnyH_take (i := 7) (v := ?_) rfl (by kernel_rfl) (by kernel_rfl) (by kernel_rfl) (fun _ _ _ h => h) (Or.inl ⟨by rfl, ?_⟩) hS ?_
      rotate_left
      · intro w _; go_simp; try with_reducible rfl
      simp only [List.getElem_toArray, List.getElem_cons_zero, List.getElem_cons_succ, Act.put, List.setIfInBounds_toArray, List.set_cons_zero, List.set_cons_succ]
      refine wpAnyH_take (i := 8) (v := ?_) rfl (by kernel_rfl) (by kernel_rfl) (by kernel_rfl) (fun _ _ _ h => h) (Or.inl ⟨by rfl, ?_⟩) hS ?_
      rotate_left
      · intro w _; go_simp; try with_reducible rfl
      simp only [List.getElem_toArray, List.getElem_cons_zero, List.getElem_cons_succ, Act.put, List.setIfInBounds_toArray, List.set_cons_zero, List.set_cons_succ]
      refine wpAnyH_ready (rs := [9]) (by kernel_rfl) (by simp) ?_
      refine AllReadyH.cons rfl (fun K hK => ?_) AllReadyH.nil
      rw [if_pos (by rfl)]
      simp only [List.getElem_toArray, List.getElem_cons_zero, List.getElem_cons_succ]
      go_simp
      refine oc.mono ?_; rintro e_ w3 ⟨v1, v2, v3, rfl, -, -, -, hb⟩
      dsimp only
      replace nv := nv.keep hb
      replace hB := hB.trans (hb.mono hB.size)
      clear hb oc rdr
      refine hK.out _ _ trivial (fun hS => ?_)
      refine wpAnyH_done (by kernel_rfl) ?_ _
      clear hS
      have hBs := hB.size
      go_wp2_with fail
      go_loopw [9] (fun t wq => ∃ (j : Nat) (y : List Int), j ≤ n ∧ t = .int .i64 (j : Int) ∧ New w.heap.size .u32 25 wq (.slice aa n ca) y ∧ Hid (y.length = n ∧ U32 y) ∧ Below w.heap.size w wq) (fun t _ => n - (intOf t).toNat)
      case atStart => exact ⟨0, z, by omega, rfl, nv, hp, hB⟩
      case round =>
        clear nv hp hB
        obtain ⟨j, y, hj, rfl, nv, hp, hB⟩ := hrel
        by_cases hjn : j < n
        · have hdj : decide ((j : Int) < (n : Int)) = true := decide_eq_true (by omega)
          have hji : (j : Int) < (n : Int) := by omega
          obtain ⟨g, c2, hv, hg, pr⟩ := nv.pre (by rw [hp.out.1]; omega)
          simp only [Value.slice.injEq] at hv
          obtain ⟨rfl, -, rfl⟩ := hv
          have cj := pr.cell j (by rw [hp.out.1]; exact hjn)
          have fj := pr.free j
          have rg := hp.out.2 j
          obtain ⟨yj, hyj⟩ : ∃ x, x = nth y j := ⟨_, rfl⟩
          rw [← hyj] at cj rg
          obtain ⟨m, hm⟩ : ∃ x : Int, x = 4294967295 - yj := ⟨_, rfl⟩
          have nv' := (pr.set j (4294967295 - yj)).new hg
          rw [List.length_set, hp.out.1] at nv'
          have hp' : Hid ((y.set j (4294967295 - yj)).length = n ∧ U32 (y.set j (4294967295 - yj))) := Lib.hid ⟨by rw [List.length_set]; exact hp.out.1, hp.out.2.set j (by omega) (by omega)⟩
          have hB' := hB.setCell (p := ⟨g, j, none⟩) hg (.int .u32 (4294967295 - yj))
          clear nv hp hB pr hyj hm rto
          go_wp2_with fail
          go_roundw
          case rel => exact ⟨j + 1, _, by omega, by go_num, nv', hp', hB'⟩
          case measure => simp [intOf]; omega
        · obtain rfl : j = n := by omega
          have hdj : decide ((j : Int) < (j : Int)) = false := by simp
          obtain ⟨w5, rfl⟩ : ∃ x, x = wr := ⟨_, rfl⟩
          have sz : Sl .u32 w5 aa ca y := by
            obtain ⟨a2, c2, hv, s2⟩ := nv.sl
            simp only [Value.slice.injEq] at hv
            obtain ⟨rfl, -, rfl⟩ := hv
            exact s2
          obtain ⟨ad, sd, rdr⟩ := sz.from (P := Try.prog) (T := 23) (E := 25) Try.underlying23 size32N cut (by rw [hp.out.1]; exact hc)
          obtain ⟨p1, p2, L, N, ONE⟩ := one6_c i cut k y hp.out.2 (by rw [hp.out.1]; exact hc) (by rw [hp.out.1]; exact hl) hk hlt
          rw [hp.out.1] at rdr ONE
          have HONE := Lib.hid ONE
          have one1d : ∀ W, Below w5.heap.size w5 W → Calls Try.prog 29 #[.int .i64 (i : Int), .slice aa j ca, .slice aa cut ca, .slice ad (j - cut) (ca - cut), .int .i64 (k : Int)] W (OnePost p1 p2 L N W) := fun W hb => ONE W aa aa ad ca ca (ca - cut) (sz.below hb) ((sz.take cut).below hb) (sd.below hb)
          clear ONE
          go_wp2_with fail
          refine wp_region_held_drew (S := fun W_ => True) (by kernel_rfl) (trivial) (fun hS => ?_)
          have hb := below_drewN (Below.refl w5.heap.size w5) 1
          obtain ⟨w6, hw_⟩ : ∃ x, x = World.drew w5 := ⟨_, rfl⟩
          rw [show World.drewN w5 1 = w6 from hw_.symm] at hb
          rw [← hw_]
          clear hw_
          have oc := one1d w6 hb
          replace nv := nv.keep hb
          replace hB := hB.trans (hb.mono hB.size)
          clear hb one1d sz sd
          refine wpAnyH_take (i := 0) (v := ?_) rfl (by kernel_rfl) (by kernel_rfl) (by kernel_rfl) (fun _ _ _ h => h) (Or.inl ⟨by rfl, ?_⟩) hS ?_
          rotate_left
          · intro w _; go_simp; try with_reducible rfl
          simp only [List.getElem_toArray, List.getElem_cons_zero, List.getElem_cons_succ, Act.put, List.setIfInBounds_toArray, List.set_cons_zero, List.set_cons_succ]
          refine wpAnyH_take (i := 1) (v := ?_) rfl (by kernel_rfl) (by kernel_rfl) (by kernel_rfl) (fun _ _ _ h => h) (Or.inl ⟨by rfl, ?_⟩) hS ?_
          rotate_left
          · intro w _; go_simp; try with_reducible rfl
          simp only [List.getElem_toArray, List.getElem_cons_zero, List.getElem_cons_succ, Act.put, List.setIfInBounds_toArray, List.set_cons_zero, List.set_cons_succ]
          refine wpAnyH_take (i := 2) (v := ?_) rfl (by kernel_rfl) (by kernel_rfl) (by kernel_rfl) (fun _ _ _ h => h) (Or.inl ⟨by rfl, ?_⟩) hS ?_
          rotate_left
          · intro w _; go_simp; try with_reducible rfl
          simp only [List.getElem_toArray, List.getElem_cons_zero, List.getElem_cons_succ, Act.put, List.setIfInBounds_toArray, List.set_cons_zero, List.set_cons_succ]
          refine wpAnyH_take (i := 3) (v := ?_) rfl (by kernel_rfl) (by kernel_rfl) (by kernel_rfl) (fun _ _ _ h => h) (Or.inl ⟨by rfl, ?_⟩) hS ?_
          rotate_left
          · intro w _; go_simp; try with_reducible rfl
          simp only [List.getElem_toArray, List.getElem_cons_zero, List.getElem_cons_succ, Act.put, List.setIfInBounds_toArray, List.set_cons_zero, List.set_cons_succ]
          refine wpAnyH_take (i := 4) (v := ?_) rfl (by kernel_rfl) (by kernel_rfl) (by kernel_rfl) (fun _ _ _ h => h) (Or.inl ⟨by rfl, ?_⟩) hS ?_
          rotate_left
          · intro w _; go_simp; try with_reducible rfl
          simp only [List.getElem_toArray, List.getElem_cons_zero, List.getElem_cons_succ, Act.put, List.setIfInBounds_toArray, List.set_cons_zero, List.set_cons_succ]
          refine wpAnyH_take (i := 5) (v := ?_) rfl (by kernel_rfl) (by kernel_rfl) (by kernel_rfl) (fun _ _ _ h => h) (Or.inl ⟨by rfl, ?_⟩) hS ?_
          rotate_left
          · intro w _; go_simp; try with_reducible rfl
          simp only [List.getElem_toArray, List.getElem_cons_zero, List.getElem_cons_succ, Act.put, List.setIfInBounds_toArray, List.set_cons_zero, List.set_cons_succ]
          refine wpAnyH_take (i := 6) (v := ?_) rfl (by kernel_rfl) (by kernel_rfl) (by kernel_rfl) (fun _ _ _ h => h) (Or.inl ⟨by rfl, ?_⟩) hS ?_
          rotate_left
          · intro w _; go_simp; try with_reducible rfl
          simp only [List.getElem_toArray, List.getElem_cons_zero, List.getElem_cons_succ, Act.put, List.setIfInBounds_toArray, List.set_cons_zero, List.set_cons_succ]
          refine wpAnyH_take (i := 7) (v := ?_) rfl (by kernel_rfl) (by kernel_rfl) (by kernel_rfl) (fun _ _ _ h => h) (Or.inl ⟨by rfl, ?_⟩) hS ?_
          rotate_left
          · intro w _; go_simp; try with_reducible rfl
          simp only [List.getElem_toArray, List.getElem_cons_zero, List.getElem_cons_succ, Act.put, List.setIfInBounds_toArray, List.set_cons_zero, List.set_cons_succ]
          refine wpAnyH_take (i := 8) (v := ?_) rfl (by kernel_rfl) (by kernel_rfl) (by kernel_rfl) (fun _ _ _ h => h) (Or.inl ⟨by rfl, ?_⟩) hS ?_
          rotate_left
          · intro w _; go_simp; try with_reducible rfl
          simp only [List.getElem_toArray, List.getElem_cons_zero, List.getElem_cons_succ, Act.put, List.setIfInBounds_toArray, List.set_cons_zero, List.set_cons_succ]
          refine wpAnyH_ready (rs := [9]) (by kernel_rfl) (by simp) ?_
          refine AllReadyH.cons rfl (fun K hK => ?_) AllReadyH.nil
          rw [if_pos (by rfl)]
          simp only [List.getElem_toArray, List.getElem_cons_zero, List.getElem_cons_succ]
          go_simp
          refine oc.mono ?_; rintro e_ w7 ⟨v1, v2, v3, rfl, r1, r2, n3, hb⟩
          obtain ⟨x1a, x1c, x1z, rfl, x1s, -, x1u, x1v⟩ := r1.sl
          obtain ⟨x2a, x2c, x2z, rfl, x2s, -, x2u, x2v⟩ := r2.sl
          obtain ⟨x3a, x3c, rfl, x3s⟩ := n3.sl
          dsimp only
          replace nv := nv.keep hb
          replace hB := hB.trans (hb.mono hB.size)
          clear hb oc rdr r1 r2 n3
          refine hK.out _ _ trivial (fun hS => ?_)
          refine wpAnyH_take (i := 10) (v := ?_) rfl (by kernel_rfl) (by kernel_rfl) (by kernel_rfl) (fun _ _ _ h => h) (Or.inl ⟨by rfl, ?_⟩) hS ?_
          rotate_left
          · intro w _; go_simp; try with_reducible rfl
          simp only [List.getElem_toArray, List.getElem_cons_zero, List.getElem_cons_succ, Act.put, List.setIfInBounds_toArray, List.set_cons_zero, List.set_cons_succ]
          refine wpAnyH_take (i := 11) (v := ?_) rfl (by kernel_rfl) (by kernel_rfl) (by kernel_rfl) (fun _ _ _ h => h) (Or.inl ⟨by rfl, ?_⟩) hS ?_
          rotate_left
          · intro w _; go_simp; try with_reducible rfl
          simp only [List.getElem_toArray, List.getElem_cons_zero, List.getElem_cons_succ, Act.put, List.setIfInBounds_toArray, List.set_cons_zero, List.set_cons_succ]
          refine wpAnyH_take (i := 12) (v := ?_) rfl (by kernel_rfl) (by kernel_rfl) (by kernel_rfl) (fun _ _ _ h => h) (Or.inl ⟨by rfl, ?_⟩) hS ?_
          rotate_left
          · intro w _; go_simp; try with_reducible rfl
          simp only [List.getElem_toArray, List.getElem_cons_zero, List.getElem_cons_succ, Act.put, List.setIfInBounds_toArray, List.set_cons_zero, List.set_cons_succ]
          refine wpAnyH_take (i := 13) (v := ?_) rfl (by kernel_rfl) (by kernel_rfl) (by kernel_rfl) (fun _ _ _ h => h) (Or.inl ⟨by rfl, ?_⟩) hS ?_
          rotate_left
          · intro w _; go_simp; try with_reducible rfl
          simp only [List.getElem_toArray, List.getElem_cons_zero, List.getElem_cons_succ, Act.put, List.setIfInBounds_toArray, List.set_cons_zero, List.set_cons_succ]
          refine wpAnyH_take (i := 14) (v := ?_) rfl (by kernel_rfl) (by kernel_rfl) (by kernel_rfl) (fun _ _ _ h => h) (Or.inl ⟨by rfl, ?_⟩) hS ?_
          rotate_left
          · intro w _; go_simp; try with_reducible rfl
          simp only [List.getElem_toArray, List.getElem_cons_zero, List.getElem_cons_succ, Act.put, List.setIfInBounds_toArray, List.set_cons_zero, List.set_cons_succ]
          refine wpAnyH_ready (rs := [15]) (by kernel_rfl) (by simp) ?_
          refine AllReadyH.cons rfl (fun K hK => ?_) AllReadyH.nil
          rw [if_pos (by rfl)]
          simp only [List.getElem_toArray, List.getElem_cons_zero, List.getElem_cons_succ]
          go_simp
          refine hK.out _ _ hS (fun hS => ?_)
          refine wpAnyH_ready (rs := [16]) (by kernel_rfl) (by simp) ?_
          refine AllReadyH.cons rfl (fun K hK => ?_) AllReadyH.nil
          rw [if_pos (by rfl)]
          simp only [List.getElem_toArray, List.getElem_cons_zero, List.getElem_cons_succ]
          go_simp
          refine hK.out _ _ hS (fun hS => ?_)
          refine wpAnyH_ready (rs := [17]) (by kernel_rfl) (by simp) ?_
          refine AllReadyH.cons rfl (fun K hK => ?_) AllReadyH.nil
          rw [if_pos (by rfl)]
          simp only [List.getElem_toArray, List.getElem_cons_zero, List.getElem_cons_succ]
          go_simp
          refine hK.out _ _ hS (fun hS => ?_)
          refine wpAnyH_ready (rs := [18]) (by kernel_rfl) (by simp) ?_
          refine AllReadyH.cons rfl (fun K hK => ?_) AllReadyH.nil
          rw [if_pos (by rfl)]
          simp only [List.getElem_toArray, List.getElem_cons_zero, List.getElem_cons_succ]
          go_simp
          refine hK.out _ _ hS (fun hS => ?_)
          refine wpAnyH_done (by kernel_rfl) ?_ _
          clear hS
          -- the copy
          have cp := copied_c aa ca y w7 (by
            obtain ⟨a2, c2, hv, s2⟩ := nv.sl
            simp only [Value.slice.injEq] at hv
            obtain ⟨rfl, -, rfl⟩ := hv
            exact s2) (by rw [hp.out.1]; omega)
          unfold RowPost at cp
          rw [hp.out.1] at cp
          go_wp2_with fail
          refine cp.mono ?_; rintro e_ w8 ⟨vc, rfl, nc, hb⟩
          obtain ⟨ac, cc, rfl, sc⟩ := nc.sl
          rw [hp.out.1]
          replace nv := nv.keep hb
          replace hB := hB.trans (hb.mono hB.size)
          replace x1s := x1s.below hb
          replace x2s := x2s.below hb
          replace x3s := x3s.below hb
          clear hb cp nc rto
          have rto := fun W => run_to (P := Try.prog) W 23 25 Try.underlying23 size32N ac j cc cut (by have := sc.le; have := hp.out.1; omega) (cut : Int) rfl
          obtain ⟨ae, se, rdr⟩ := sc.from (P := Try.prog) (T := 23) (E := 25) Try.underlying23 size32N cut (by rw [hp.out.1]; exact hc)
          rw [hp.out.1] at rdr
          have one1d : ∀ W, Below w8.heap.size w8 W → Calls Try.prog 29 #[.int .i64 (i : Int), .slice ac j cc, .slice ac cut cc, .slice ae (j - cut) (cc - cut), .int .i64 (k : Int)] W (OnePost p1 p2 L N W) := fun W hb => HONE.out W ac ac ae cc cc (cc - cut) (sc.below hb) ((sc.take cut).below hb) (se.below hb)
          go_wp2_with fail
          refine wp_region_held_drew (S := fun W_ => True) (by kernel_rfl) (trivial) (fun hS => ?_)
          have hb := below_drewN (Below.refl w8.heap.size w8) 1
          obtain ⟨w9, hw_⟩ : ∃ x, x = World.drew w8 := ⟨_, rfl⟩
          rw [show World.drewN w8 1 = w9 from hw_.symm] at hb
          rw [← hw_]
          clear hw_
          have oc := one1d w9 hb
          replace nv := nv.keep hb
          replace hB := hB.trans (hb.mono hB.size)
          replace x1s := x1s.below hb
          replace x2s := x2s.below hb
          replace x3s := x3s.below hb
          clear hb one1d sc se HONE
          refine wpAnyH_take (i := 0) (v := ?_) rfl (by kernel_rfl) (by kernel_rfl) (by kernel_rfl) (fun _ _ _ h => h) (Or.inl ⟨by rfl, ?_⟩) hS ?_
          rotate_left
          · intro w _; go_simp; try with_reducible rfl
          simp only [List.getElem_toArray, List.getElem_cons_zero, List.getElem_cons_succ, Act.put, List.setIfInBounds_toArray, List.set_cons_zero, List.set_cons_succ]
          refine wpAnyH_take (i := 1) (v := ?_) rfl (by kernel_rfl) (by kernel_rfl) (by kernel_rfl) (fun _ _ _ h => h) (Or.inl ⟨by rfl, ?_⟩) hS ?_
          rotate_left
          · intro w _; go_simp; try with_reducible rfl
          simp only [List.getElem_toArray, List.getElem_cons_zero, List.getElem_cons_succ, Act.put, List.setIfInBounds_toArray, List.set_cons_zero, List.set_cons_succ]
          refine wpAnyH_take (i := 2) (v := ?_) rfl (by kernel_rfl) (by kernel_rfl) (by kernel_rfl) (fun _ _ _ h => h) (Or.inl ⟨by rfl, ?_⟩) hS ?_
          rotate_left
          · intro w _; go_simp; try with_reducible rfl
          simp only [List.getElem_toArray, List.getElem_cons_zero, List.getElem_cons_succ, Act.put, List.setIfInBounds_toArray, List.set_cons_zero, List.set_cons_succ]
          refine wpAnyH_take (i := 3) (v := ?_) rfl (by kernel_rfl) (by kernel_rfl) (by kernel_rfl) (fun _ _ _ h => h) (Or.inl ⟨by rfl, ?_⟩) hS ?_
          rotate_left
          · intro w _; go_simp; try with_reducible rfl
          simp only [List.getElem_toArray, List.getElem_cons_zero, List.getElem_cons_succ, Act.put, List.setIfInBounds_toArray, List.set_cons_zero, List.set_cons_succ]
          refine wpAnyH_take (i := 4) (v := ?_) rfl (by kernel_rfl) (by kernel_rfl) (by kernel_rfl) (fun _ _ _ h => h) (Or.inl ⟨by rfl, ?_⟩) hS ?_
          rotate_left
          · intro w _; go_simp; try with_reducible rfl
          simp only [List.getElem_toArray, List.getElem_cons_zero, List.getElem_cons_succ, Act.put, List.setIfInBounds_toArray, List.set_cons_zero, List.set_cons_succ]
          refine wpAnyH_take (i := 5) (v := ?_) rfl (by kernel_rfl) (by kernel_rfl) (by kernel_rfl) (fun _ _ _ h => h) (Or.inl ⟨by rfl, ?_⟩) hS ?_
          rotate_left
          · intro w _; go_simp; try with_reducible rfl
          simp only [List.getElem_toArray, List.getElem_cons_zero, List.getElem_cons_succ, Act.put, List.setIfInBounds_toArray, List.set_cons_zero, List.set_cons_succ]
          refine wpAnyH_take (i := 6) (v := ?_) rfl (by kernel_rfl) (by kernel_rfl) (by kernel_rfl) (fun _ _ _ h => h) (Or.inl ⟨by rfl, ?_⟩) hS ?_
          rotate_left
          · intro w _; go_simp; try with_reducible rfl
          simp only [List.getElem_toArray, List.getElem_cons_zero, List.getElem_cons_succ, Act.put, List.setIfInBounds_toArray, List.set_cons_zero, List.set_cons_succ]
          refine wpAnyH_take (i := 7) (v := ?_) rfl (by kernel_rfl) (by kernel_rfl) (by kernel_rfl) (fun _ _ _ h => h) (Or.inl ⟨by rfl, ?_⟩) hS ?_
          rotate_left
          · intro w _; go_simp; try with_reducible rfl
          simp only [List.getElem_toArray, List.getElem_cons_zero, List.getElem_cons_succ, Act.put, List.setIfInBounds_toArray, List.set_cons_zero, List.set_cons_succ]
          refine wpAnyH_take (i := 8) (v := ?_) rfl (by kernel_rfl) (by kernel_rfl) (by kernel_rfl) (fun _ _ _ h => h) (Or.inl ⟨by rfl, ?_⟩) hS ?_
          rotate_left
          · intro w _; go_simp; try with_reducible rfl
          simp only [List.getElem_toArray, List.getElem_cons_zero, List.getElem_cons_succ, Act.put, List.setIfInBounds_toArray, List.set_cons_zero, List.set_cons_succ]
          refine wpAnyH_ready (rs := [9]) (by kernel_rfl) (by simp) ?_
          refine AllReadyH.cons rfl (fun K hK => ?_) AllReadyH.nil
          rw [if_pos (by rfl)]
          simp only [List.getElem_toArray, List.getElem_cons_zero, List.getElem_cons_succ]
          go_simp
          refine oc.mono ?_; rintro e_ w10 ⟨v4, v5, v6, rfl, r1, r2, n3, hb⟩
          obtain ⟨y1a, y1c, y1z, rfl, y1s, -, y1u, y1v⟩ := r1.sl
          obtain ⟨y2a, y2c, y2z, rfl, y2s, -, y2u, y2v⟩ := r2.sl
          obtain ⟨y3a, y3c, rfl, y3s⟩ := n3.sl
          dsimp only
          replace nv := nv.keep hb
          replace hB := hB.trans (hb.mono hB.size)
          replace x1s := x1s.below hb
          replace x2s := x2s.below hb
          replace x3s := x3s.below hb
          clear hb oc rdr r1 r2 n3 rto
          refine hK.out _ _ trivial (fun hS => ?_)
          refine wpAnyH_take (i := 10) (v := ?_) rfl (by kernel_rfl) (by kernel_rfl) (by kernel_rfl) (fun _ _ _ h => h) (Or.inl ⟨by rfl, ?_⟩) hS ?_
          rotate_left
          · intro w _; go_simp; try with_reducible rfl
          simp only [List.getElem_toArray, List.getElem_cons_zero, List.getElem_cons_succ, Act.put, List.setIfInBounds_toArray, List.set_cons_zero, List.set_cons_succ]
          refine wpAnyH_take (i := 11) (v := ?_) rfl (by kernel_rfl) (by kernel_rfl) (by kernel_rfl) (fun _ _ _ h => h) (Or.inl ⟨by rfl, ?_⟩) hS ?_
          rotate_left
          · intro w _; go_simp; try with_reducible rfl
          simp only [List.getElem_toArray, List.getElem_cons_zero, List.getElem_cons_succ, Act.put, List.setIfInBounds_toArray, List.set_cons_zero, List.set_cons_succ]
          refine wpAnyH_take (i := 12) (v := ?_) rfl (by kernel_rfl) (by kernel_rfl) (by kernel_rfl) (fun _ _ _ h => h) (Or.inl ⟨by rfl, ?_⟩) hS ?_
          rotate_left
          · intro w _; go_simp; try with_reducible rfl
          simp only [List.getElem_toArray, List.getElem_cons_zero, List.getElem_cons_succ, Act.put, List.setIfInBounds_toArray, List.set_cons_zero, List.set_cons_succ]
          refine wpAnyH_take (i := 13) (v := ?_) rfl (by kernel_rfl) (by kernel_rfl) (by kernel_rfl) (fun _ _ _ h => h) (Or.inl ⟨by rfl, ?_⟩) hS ?_
          rotate_left
          · intro w _; go_simp; try with_reducible rfl
          simp only [List.getElem_toArray, List.getElem_cons_zero, List.getElem_cons_succ, Act.put, List.setIfInBounds_toArray, List.set_cons_zero, List.set_cons_succ]
          refine wpAnyH_take (i := 14) (v := ?_) rfl (by kernel_rfl) (by kernel_rfl) (by kernel_rfl) (fun _ _ _ h => h) (Or.inl ⟨by rfl, ?_⟩) hS ?_
          rotate_left
          · intro w _; go_simp; try with_reducible rfl
          simp only [List.getElem_toArray, List.getElem_cons_zero, List.getElem_cons_succ, Act.put, List.setIfInBounds_toArray, List.set_cons_zero, List.set_cons_succ]
          refine wpAnyH_ready (rs := [15]) (by kernel_rfl) (by simp) ?_
          refine AllReadyH.cons rfl (fun K hK => ?_) AllReadyH.nil
          rw [if_pos (by rfl)]
          simp only [List.getElem_toArray, List.getElem_cons_zero, List.getElem_cons_succ]
          go_simp
          refine hK.out _ _ hS (fun hS => ?_)
          refine wpAnyH_ready (rs := [16]) (by kernel_rfl) (by simp) ?_
          refine AllReadyH.cons rfl (fun K hK => ?_) AllReadyH.nil
          rw [if_pos (by rfl)]
          simp only [List.getElem_toArray, List.getElem_cons_zero, List.getElem_cons_succ]
          go_simp
          refine hK.out _ _ hS (fun hS => ?_)
          refine wpAnyH_ready (rs := [17]) (by kernel_rfl) (by simp) ?_
          refine AllReadyH.cons rfl (fun K hK => ?_) AllReadyH.nil
          rw [if_pos (by rfl)]
          simp only [List.getElem_toArray, List.getElem_cons_zero, List.getElem_cons_succ]
          go_simp
          refine hK.out _ _ hS (fun hS => ?_)
          refine wpAnyH_ready (rs := [18]) (by kernel_rfl) (by simp) ?_
          refine AllReadyH.cons rfl (fun K hK => ?_) AllReadyH.nil
          rw [if_pos (by rfl)]
          simp only [List.getElem_toArray, List.getElem_cons_zero, List.getElem_cons_succ]
          go_simp
          refine hK.out _ _ hS (fun hS => ?_)
          refine wpAnyH_done (by kernel_rfl) ?_ _
          clear hS
          have q1 := Cmp_eq _ _ _ _ x1z y1z w10 x1s y1s x1u y1u (x1v.trans y1v.symm)
          have q2 := fun W (hb : Below w10.heap.size w10 W) => Cmp_eq _ _ _ _ x2z y2z W (x2s.below hb) (y2s.below hb) x2u y2u (x2v.trans y2v.symm)
          have q3 := fun W (hb : Below w10.heap.size w10 W) => sameBytes_c _ _ _ _ L L W (x3s.below hb) (y3s.below hb)
          rw [decide_eq_true rfl] at q3
          have nN : (N != N) = false := by simp
          obtain ⟨l1, hl1⟩ : ∃ l, l = x1z.length := ⟨_, rfl⟩
          obtain ⟨l2, hl2⟩ : ∃ l, l = x2z.length := ⟨_, rfl⟩
          obtain ⟨m1, hm1⟩ : ∃ l, l = y1z.length := ⟨_, rfl⟩
          obtain ⟨m2, hm2⟩ : ∃ l, l = y2z.length := ⟨_, rfl⟩
          obtain ⟨l3, hl3⟩ : ∃ l, l = L.length := ⟨_, rfl⟩
          rw [← hl1, ← hm1] at q1
          rw [← hl2, ← hm2] at q2
          rw [← hl3] at q3
          rw [← hl1, ← hm1, ← hl2, ← hm2, ← hl3]
          clear x1v y1v x2v y2v x1s y1s x2s y2s x3s y3s hl1 hl2 hl3 hm1 hm2
          go_wp2_with fail
          refine q1.mono ?_; rintro e_ w11 ⟨rfl, hd1⟩
          have b11 := Dr.bl hd1
          have h2 := q2 _ b11
          go_wp2_with fail
          refine h2.mono ?_; rintro e_ w12 ⟨rfl, hd2⟩
          have b12 := b11.trans ((Dr.bl hd2).mono b11.size)
          have h3 := q3 _ b12
          go_wp2_with fail
          refine h3.mono ?_; rintro e_ w13 ⟨rfl, hd3⟩
          have b13 := b12.trans ((Dr.bl hd3).mono b12.size)
          replace nv := nv.keep b13
          replace hB := hB.trans (b13.mono hB.size)
          clear q1 q2 q3 h2 h3 hd1 hd2 hd3 b11 b12 b13
          go_wp2_with fail
          go_roundw
          case rel => exact ⟨i + 1, y, by omega, by go_num, nv, hp, hB⟩
          case measure => simp [intOf]; omega
    · obtain rfl : i = 10 := by omega
      have hd : decide ((10 : Int) < 10) = false := by decide
      rw [show ((10 : Nat) : Int) = 10 from rfl]
      go_wp2_with fail
      go_ret
      exact ⟨by first | done | rfl | simp, hB⟩
end Go.Proofs.Ytnlmkikaaifcmaa
