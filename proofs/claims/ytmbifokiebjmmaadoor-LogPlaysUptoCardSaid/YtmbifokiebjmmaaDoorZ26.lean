import Derived.Test.YtmbifokiebjmmaaDoorZ23
/- Cuts of rows of lists. -/
set_option linter.unusedVariables false
set_option linter.unusedSimpArgs false
namespace Go.Proofs.YtmbifokiebjmmaaDoor
open Go.RowKit Go.Sg
theorem cutB_to (W : World) (a : Option Addr) (n cap k : Nat) (hk : k ≤ cap) : (Instr.sliceAt 23 (.slice a n cap) none (some (.int .i64 (k : Int))) none).run Tryd.prog W = .ok (.slice a k cap) W :=
  run_to W 23 25 Tryd.underlying23 (by kernel_rfl) a n cap k hk (k : Int) rfl
theorem MkL.cap {B : Nat} {E T : TypeId} {w : World} {a : Option Addr} {n c : Nat} {G : Nat → Nat} {ss : List (List Int)} (hn : n = ss.length) (h : MkL B E T w (.slice a n c) G ss) : n ≤ c := by
  subst hn
  rcases h.row with ⟨h0, h1⟩ | ⟨g, cap, cs, h0, _, _, h1, _⟩
  · simp only [Value.slice.injEq] at h0; omega
  · simp only [Value.slice.injEq] at h0
    rw [List.length_map, List.length_range] at h1
    omega
theorem MkL.take {B : Nat} {E T : TypeId} {w : World} {a : Option Addr} {n c k : Nat} {G : Nat → Nat} {ss : List (List Int)} (h : MkL B E T w (.slice a n c) G ss) (hk : k ≤ n) (hn : n = ss.length) : ((∀ s ∈ ss, U8 s) → (∀ s ∈ ss, s.length ≤ 1048576) → Rows_ w a (mparts G (ss.take k))) ∧ True := by
  subst hn
  refine ⟨fun hu hl => ?_, trivial⟩
  have hr := h.rows hu (fun s hs => by have := hl s hs; omega)
  have e : mparts G (ss.take k) = (mparts G ss).take k := by
    unfold mparts
    rw [List.length_take, Nat.min_eq_left hk, ← List.map_take, List.take_range, Nat.min_eq_left hk]
    refine List.map_congr_left fun j hj => ?_
    have hj := List.mem_range.1 hj
    rw [List.getD_eq_getElem?_getD, List.getD_eq_getElem?_getD, List.getElem?_take, if_pos hj]
  rw [e]
  refine ⟨fun hp => ?_, fun p hp => hr.sl p (List.mem_of_mem_take hp), fun p hp => hr.u8 p (List.mem_of_mem_take hp)⟩
  rw [List.length_take] at hp
  obtain ⟨b, off, ha, hc⟩ := hr.at_ (by omega)
  refine ⟨b, off, ha, fun j hj => ?_⟩
  rw [List.length_take] at hj
  rw [hc j (by omega), List.getElem_take]
end Go.Proofs.YtmbifokiebjmmaaDoor
/- signetlaw36.turned of one list out of many; regions that draw their order, where more is known later. -/
set_option linter.unusedVariables false
set_option linter.unusedSimpArgs false
namespace Go.Sg
open Go.RowKit
section
variable {P : Program} {md : Region.Mode} {ops : Array Oper} {Q : Exit → Act → World → Prop} {S S' : World → Prop}
/-- More may be asked of the worlds from here on. -/
theorem wpAnyH_mono (h : ∀ w, S' w → S w) : ∀ (fuel : Nat) (listed : Array Bool) (a : Act) (w : World), wpAnyH P md ops Q S' fuel listed a w → wpAnyH P md ops Q S fuel listed a w
  | 0, _, _, _, H => H
  | fuel + 1, _, _, _, H => ⟨H.1, fun i hi => wpOp_mono (fun a' w' h' => ⟨h _ h'.1, wpAnyH_mono h fuel _ a' w' h'.2⟩) (H.2 i hi)⟩
end
def turnP (s : List Int) (k : Nat) : List Int := tl36 0 (s.take k) ++ s.drop k
theorem turnP_zero (s : List Int) : turnP s 0 = s := rfl
theorem turnP_end (s : List Int) : turnP s s.length = tl36 0 s := by unfold turnP; rw [List.take_length, List.drop_length, List.append_nil]
theorem turnF_one (s : List Int) (k : Nat) : turnF [s] 0 k = [turnP s k] := rfl
theorem turnP_step (s : List Int) (k : Nat) (hk : k < s.length) : (turnP s k).set k (bx (nth s k) (mk36 0)) = turnP s (k + 1) := by
  have h := turnF_step [s] 0 k (by simp) (by simpa using hk)
  rw [turnF_one, turnF_one] at h
  simpa using h
theorem turnP_len (s : List Int) (k : Nat) : (turnP s k).length = s.length := by
  unfold turnP
  rw [List.length_append, tl36_len, List.length_take, List.length_drop]
  omega
theorem turnP_nth (s : List Int) (k : Nat) (hk : k < s.length) : nth (turnP s k) k = nth s k := by
  have h := turnF_nth [s] 0 k (by simp) (by simpa using hk)
  rw [turnF_one] at h
  simpa using h
theorem set_set_same {α : Type} (l : List α) (i : Nat) (a b : α) : (l.set i a).set i b = l.set i b := List.set_set ..
end Go.Sg
namespace Go.Proofs.YtmbifokiebjmmaaDoor
open Go.RowKit Go.Sg
set_option maxHeartbeats 16000000 in
set_option maxRecDepth 20000 in
theorem turned1_c (bb gL n c cL i : Nat) (G : Nat → Nat) (ss : List (List Int)) (s : List Int) (w : World) (hn : n = ss.length) (hi : i < n) (hs : ss.getD i [] = s) (hm : MkW bb w (.slice (some ⟨gL, 0, none⟩) n cL) G ss) (us : U8 s) (hl : s.length ≤ 1048576) (hbb : bb ≤ w.heap.size) :
    Calls Tryd.prog 18 #[.slice (some ⟨gL, i, none⟩) 1 c] w (fun e w' => ∃ v, e = .returned v ∧ NewV w.heap.size 9 w' v [str (tl36 0 s)] ∧ MkW bb w' (.slice (some ⟨gL, 0, none⟩) n cL) G (ss.set i (tl36 0 s)) ∧ Below bb w w' ∧ Fr (fun _ => G i) 1 w w') := by
  have hsi : i < ss.length := by omega
  have e0 : ss.set i s = ss := by
    rw [← hs, List.getD_eq_getElem?_getD, List.getElem?_eq_getElem hsi]
    exact List.set_getElem_self hsi
  obtain ⟨z, hz⟩ : ∃ z, z = s.length := ⟨_, rfl⟩
  have HZ := Lib.hid hz
  have hzl : z ≤ 1048576 := by omega
  have GE : Hid (∀ x, (ss.set i x).getD i [] = x) := Lib.hid fun x => by rw [getD_set' hsi, if_pos rfl]
  have HSI := Lib.hid hsi
  have start : MkW bb w (.slice (some ⟨gL, 0, none⟩) n cL) G (ss.set i (turnP s 0)) := by rw [turnP_zero, e0]; exact hm
  have HNN := Lib.hid hn
  clear e0 hz hsi hs hm hn
  go_enter Tryd.func18, Tryd.ntmps18
  go_wp2_with fail
  go_loopw [3] (fun t wr => ∃ o : Nat, o ≤ 1 ∧ t = .int .i64 (o : Int) ∧ MkW bb wr (.slice (some ⟨gL, 0, none⟩) n cL) G (ss.set i (turnP s (if o = 0 then 0 else z))) ∧ Below bb w wr ∧ Fr (fun _ => G i) 1 w wr) (fun t _ => 1 - (intOf t).toNat)
  case atStart => exact ⟨0, by omega, rfl, by rw [if_pos rfl]; exact start, .refl _ _, .refl _ _ _⟩
  case round =>
    clear start
    obtain ⟨o, ho, rfl, hm, hb, hf⟩ := hrel
    by_cases hlt : o < 1
    · obtain rfl : o = 0 := by omega
      rw [if_pos rfl] at hm
      rw [show ((0 : Nat) : Int) = 0 from rfl]
      clear ho hlt
      go_wp2_with fail
      go_loopw [4] (fun t wr => ∃ k : Nat, k ≤ z ∧ t = .int .i64 (k : Int) ∧ MkW bb wr (.slice (some ⟨gL, 0, none⟩) n cL) G (ss.set i (turnP s k)) ∧ Below bb w wr ∧ Fr (fun _ => G i) 1 w wr) (fun t _ => z - (intOf t).toNat)
      case atStart => exact ⟨0, by omega, rfl, hm, hb, hf⟩
      case round =>
        clear hm hb hf
        obtain ⟨k, hk, rfl, hm, hb, hf⟩ := hrel
        obtain ⟨g, eg, _, cell⟩ := hm.place (i := i) (by rw [List.length_set]; exact HSI.out)
        cases eg
        rw [GE.out, turnP_len, ← HZ.out] at cell
        by_cases hkm : k < z
        · have hd2 : decide ((k : Int) < (z : Int)) = true := decide_eq_true (by omega)
          have hkmi : (k : Int) < (z : Int) := by omega
          obtain ⟨x, hx⟩ : ∃ x, x = nth s k := ⟨_, rfl⟩
          obtain ⟨f0, c0, hB, hm2⟩ := hm.set (by decide) (i := i) (j := k) (by rw [List.length_set]; exact HSI.out) (by rw [GE.out, turnP_len, ← HZ.out]; exact hkm) (bx x 1)
          rw [GE.out, turnP_nth _ _ (by rw [← HZ.out]; exact hkm), ← hx] at c0
          have es : (turnP s k).set k (bx x 1) = turnP s (k + 1) := by
            have := turnP_step s k (by rw [← HZ.out]; exact hkm)
            rw [show mk36 0 = 1 from rfl, ← hx] at this
            exact this
          rw [GE.out, List.set_set, es] at hm2
          have hb2 := hb.setCell (p := ⟨G i, k, none⟩) hB (.int .u8 (bx x 1))
          have hf2 := (hf.set (i := 0) (by omega) k (.int .u8 (bx x 1))).drew
          have hxo : bits .xor .u8 x 1 = bx x 1 := rfl
          have yw : IntKind.u8.wrap 1 = 1 := by rw [IntKind.wrap_u8']; rfl
          clear hm hb hx hf es
          go_wp2_with fail
          go_region
          all_goals (
            have hm3 := hm2.drew
            have hb3 := below_drewN hb2 1
            clear hm2 hb2
            go_wp2_with fail
            go_roundw
            case rel => exact ⟨k + 1, by omega, by go_num, hm3, hb3, hf2⟩
            case measure => simp [intOf]; omega)
        · obtain rfl : k = z := by omega
          have hd2 : decide ((k : Int) < (k : Int)) = false := by simp
          go_wp2_with fail
          go_roundw
          case rel => exact ⟨1, by omega, rfl, by rw [if_neg (by omega)]; exact hm, hb, hf⟩
          case measure => simp [intOf]
    · obtain rfl : o = 1 := by omega
      rw [if_neg (by omega), HZ.out, turnP_end] at hm
      rw [show ((1 : Nat) : Int) = 1 from rfl]
      obtain ⟨g, eg, _, cell⟩ := hm.place (i := i) (by rw [List.length_set]; exact HSI.out)
      cases eg
      rw [GE.out] at cell
      have hk := (hm.blk i (by rw [List.length_set]; exact HSI.out)).2
      rw [GE.out] at hk
      have sw := hk.sl (tl36 0 s).length ((tl36 0 s).length + 70) (by omega) (by rw [tl36_len]; omega)
      rw [List.take_left] at sw
      have rows : Rows_ wr (some ⟨gL, i, none⟩) [⟨some ⟨G i, 0, none⟩, (tl36 0 s).length + 70, tl36 0 s⟩] := by
        refine ⟨fun _ => ⟨gL, i, rfl, fun j hj => ?_⟩, fun p hp => ?_, fun p hp => ?_⟩
        · obtain rfl : j = 0 := by simpa using hj
          exact cell
        · simp only [List.mem_singleton] at hp; subst hp; exact sw
        · simp only [List.mem_singleton] at hp; subst hp; exact tl36_u8 _ _
      have tx := textsR_c (some ⟨gL, i, none⟩) c _ wr rows (fun p hp => by
        simp only [List.mem_singleton] at hp; subst hp
        show (tl36 0 s).length ≤ _
        rw [tl36_len]; omega) (by simp)
      unfold TextsOut at tx
      simp only [List.map_cons, List.map_nil, List.length_singleton] at tx
      clear rows sw hk cell
      go_wp2_with fail
      refine tx.mono ?_; rintro e w2 ⟨v, rfl, hv, hb2⟩
      go_wp2_with fail
      go_ret
      have hsz := hb.size
      exact ⟨v, rfl, hv.mono hsz, hm.keep hb2, hb.trans (hb2.mono (Nat.le_trans hbb hsz)), hf.below hb2⟩
end Go.Proofs.YtmbifokiebjmmaaDoor
