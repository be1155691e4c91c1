/- signetlaw36: texts, turned, kept by their contracts. -/
import Derived.Test.YtmbifokiebjmmaaDoorLogL
import Derived.Test.YtmbifokiebjmmaaDoorMkP
set_option linter.unusedVariables false
set_option linter.unusedSimpArgs false
namespace Go.Sg
open Go.RowKit
/-- Of what was there, nothing but the first n of these blocks has turned. -/
def Fr (G : Nat → Nat) (n : Nat) (w w' : World) : Prop := w.heap.size ≤ w'.heap.size ∧ ∀ c, c < w.heap.size → (∀ j, j < n → c ≠ G j) → w'.heap[c]? = w.heap[c]?
theorem Fr.refl (G : Nat → Nat) (n : Nat) (w : World) : Fr G n w w := ⟨Nat.le_refl _, fun _ _ _ => rfl⟩
theorem Fr.drew {G : Nat → Nat} {n : Nat} {w w' : World} (h : Fr G n w w') : Fr G n w w'.drew := h
theorem Fr.below {G : Nat → Nat} {n : Nat} {w w' w'' : World} (h : Fr G n w w') (hb : Below w'.heap.size w' w'') : Fr G n w w'' :=
  ⟨Nat.le_trans h.1 hb.size, fun c hc hn => (hb.block c (Nat.lt_of_lt_of_le hc h.1)).trans (h.2 c hc hn)⟩
theorem Fr.set {G : Nat → Nat} {n : Nat} {w w' : World} (h : Fr G n w w') {i : Nat} (hi : i < n) (k : Nat) (v : Value) : Fr G n w (w'.setCell ⟨G i, k, none⟩ v) :=
  ⟨by have := h.1; simpa using this, fun c hc hn => (heap_setCell_other w' ⟨G i, k, none⟩ c v (fun e => hn i hi e)).trans (h.2 c hc hn)⟩
theorem NewV.by_blocks {B : Nat} {E : TypeId} {w w' : World} {v : Value} {vs : List Value} (h : NewV B E w v vs) (hf : ∀ c, v.ownBlock = some c → w'.heap[c]? = w.heap[c]?) : NewV B E w' v vs := by
  rcases h with h | ⟨g, cap, cs, rfl, h1, hh, h2⟩
  · exact .inl h
  · exact .inr ⟨g, cap, cs, rfl, h1, (hf g rfl).trans hh, h2⟩
theorem MkL.by_blocks {B : Nat} {E T : TypeId} {w w' : World} {l : Value} {G : Nat → Nat} {ss : List (List Int)} (h : MkL B E T w l G ss) (hr : ∀ c, l.ownBlock = some c → w'.heap[c]? = w.heap[c]?) (hf : ∀ j, j < ss.length → w'.heap[G j]? = w.heap[G j]?) : MkL B E T w' l G ss :=
  ⟨h.row.by_blocks hr, fun j hj => ⟨(h.blk j hj).1, (hf j hj).trans (h.blk j hj).2⟩, h.apart⟩
/-- Lists that are none of those that were written over. -/
theorem MkL.fr_above {B n : Nat} {E T : TypeId} {w w' : World} {l : Value} {G G' : Nat → Nat} {ss : List (List Int)} (h : MkL B E T w l G ss) (S : Nat) (hS : S ≤ B) (hG : ∀ j, j < n → G' j < S) (hf : Fr G' n w w') : MkL B E T w' l G ss :=
  h.by_blocks (fun c hc => by
    have := h.row.lt c hc
    exact hf.2 c this.2 fun j hj e => by have := hG j hj; omega) (fun j hj => by
    have := h.blk j hj
    exact hf.2 _ this.2.lt fun i hi e => by have := hG i hi; omega)
theorem MkL.fr_under {B n S : Nat} {E T : TypeId} {w w' : World} {l : Value} {G G' : Nat → Nat} {ss : List (List Int)} (h : MkL B E T w l G ss) (h1 : ∀ c, l.ownBlock = some c → c < S) (h2 : ∀ j, j < ss.length → G j < S) (hG : ∀ j, j < n → S ≤ G' j) (hf : Fr G' n w w') : MkL B E T w' l G ss :=
  h.by_blocks (fun c hc => by
    have a := h1 c hc
    exact hf.2 c (h.row.lt c hc).2 fun j hj e => by have := hG j hj; omega) (fun j hj => by
    have a := h2 j hj
    exact hf.2 _ (h.blk j hj).2.lt fun i hi e => by have := hG i hi; omega)
theorem MkL.drew {B : Nat} {E T : TypeId} {w : World} {l : Value} {G : Nat → Nat} {ss : List (List Int)} (h : MkL B E T w l G ss) : MkL B E T w.drew l G ss := ⟨h.row, h.blk, h.apart⟩
theorem MkL.drewN {B : Nat} {E T : TypeId} {w : World} {l : Value} {G : Nat → Nat} {ss : List (List Int)} (h : MkL B E T w l G ss) (n : Nat) : MkL B E T (w.drewN n) l G ss := ⟨h.row, h.blk, h.apart⟩
theorem Ss.drewN {w : World} {a : Option Addr} {cap : Nat} {ss : List (List Int)} (h : Ss w a cap ss) (n : Nat) : Ss (w.drewN n) a cap ss := h.below (below_drewN (.refl _ _) n)
end Go.Sg
namespace Go.Proofs.YtmbifokiebjmmaaDoor
open Go.RowKit Go.Sg
def TextsOut (ss : List (List Int)) (w : World) (e : Ending) (w' : World) : Prop := ∃ v, e = .returned v ∧ NewV w.heap.size 9 w' v (ss.map str) ∧ Below w.heap.size w w'

set_option maxHeartbeats 16000000 in
set_option maxRecDepth 20000 in
theorem texts_c (bb : Nat) (L : Option Addr) (cL : Nat) (G : Nat → Nat) (ss : List (List Int)) (w : World) (hm : MkW bb w (.slice L ss.length cL) G ss) (hl : ∀ s ∈ ss, s.length ≤ 4294967296) (hn : ss.length ≤ 4294967296) :
    Calls Tryd.prog 35 #[.slice L ss.length cL] w (TextsOut ss w) := by
  obtain ⟨n, hn'⟩ : ∃ n, n = ss.length := ⟨_, rfl⟩
  have HN := Lib.hid hn'
  rw [← hn'] at hn hm ⊢
  clear hn'
  go_enter Tryd.func35, Tryd.ntmps35
  go_wp2_with fail
  go_loopw [3, 4] (fun v t wr => ∃ k : Nat, k ≤ n ∧ t = .int .i64 (k : Int) ∧ NewV w.heap.size 9 wr v ((ss.take k).map str) ∧ Below w.heap.size w wr) (fun _ t _ => n - (intOf t).toNat)
  case atStart => exact ⟨0, by omega, rfl, .nil _ _ _, .refl _ _⟩
  case round =>
    obtain ⟨k, hk, rfl, hv, hb⟩ := hrel
    obtain ⟨av, cv, rfl⟩ := hv.sl
    have lk : ((ss.take k).map str).length = k := by rw [List.length_map, List.length_take, ← HN.out]; omega
    rw [lk] at hv ⊢
    have LK := Lib.hid lk
    clear lk
    by_cases hlt : k < n
    · have hd : decide ((k : Int) < (n : Int)) = true := decide_eq_true (by omega)
      have hki : (k : Int) < (n : Int) := by omega
      have hmr := hm.keep hb
      obtain ⟨g, rfl, _, cell⟩ := hmr.place (i := k) (by rw [← HN.out]; exact hlt)
      obtain ⟨s, hs⟩ : ∃ s, s = ss.getD k [] := ⟨_, rfl⟩
      have hkb := (hmr.blk k (by rw [← HN.out]; exact hlt)).2
      rw [← hs] at cell hkb
      have et : Hid (ss.take (k + 1) = ss.take k ++ [s]) := Lib.hid (by
        rw [List.take_add_one, List.getElem?_eq_getElem (by rw [← HN.out]; exact hlt), hs, List.getD_eq_getElem?_getD, List.getElem?_eq_getElem (by rw [← HN.out]; exact hlt)]
        rfl)
      have sl : s.length ≤ 4294967296 := by rw [hs]; exact hl _ (getD_mem (by rw [← HN.out]; exact hlt))
      have sw : Sl .u8 wr (some ⟨G k, 0, none⟩) (s.length + 70) s := by
        have := hkb.sl s.length (s.length + 70) (by omega) (by omega)
        rwa [List.take_left] at this
      have hcv := run_str_of (P := Tryd.prog) wr 25 9 5 Tryd.underlying25 Tryd.underlying5 Tryd.underlying9 s.length rfl sw
      have al := (Below.refl wr.heap.size wr).alloc (Nat.le_refl _) (.cells #[str s] 9)
      have hv1 := hv.keep al
      have hB1 := hb.trans (al.mono hb.size)
      have lv := fun g hg => (hv.lt g hg).1
      clear hmr hkb hs sw hv hb al
      go_wp2_with (at_builtin; refine wpList_append_newX _ rfl _ _ 22 rfl w.heap.size 9 16 (str []) rfl Tryd.underlying22 infoS _ _ rfl hv1 _ 1 (str s) rfl rfl (cell_new1 _ _ _ _) (by rw [LK.out]; omega) (by rw [LK.out]; omega) hB1.size ?_)
      intro v' w2 hv2 hg2 ho2
      have hB2 := hB1.grown hg2 hB1.size lv
      clear hv1 hg2 ho2 hB1 hcv
      go_wp2_with fail
      go_roundw
      case rel => exact ⟨k + 1, by omega, by go_num, by rw [et.out, List.map_append]; rw [← List.map_take] at hv2; exact hv2, hB2⟩
      case measure => simp [intOf]; omega
    · obtain rfl : k = n := by omega
      have hd : decide ((k : Int) < (k : Int)) = false := by simp
      rw [List.take_of_length_le (by rw [← HN.out]; omega)] at hv
      go_wp2_with fail
      go_ret
      exact ⟨_, rfl, hv, hb⟩

def TurnedPost (bb : Nat) (l : Value) (G : Nat → Nat) (ss : List (List Int)) (w : World) (e : Ending) (w' : World) : Prop :=
  ∃ v, e = .returned v ∧ NewV w.heap.size 9 w' v ((turn36 ss).map str) ∧ MkW bb w' l G (turn36 ss) ∧ Below bb w w' ∧ Fr G ss.length w w'

set_option maxHeartbeats 16000000 in
set_option maxRecDepth 20000 in
theorem turned36_c (bb : Nat) (L : Option Addr) (cL : Nat) (G : Nat → Nat) (ss : List (List Int)) (w : World) (hm : MkW bb w (.slice L ss.length cL) G ss) (hu : ∀ s ∈ ss, U8 s) (hl : ∀ s ∈ ss, s.length ≤ 4294967296) (hn : ss.length ≤ 4294967296) (hbb : bb ≤ w.heap.size) :
    Calls Tryd.prog 18 #[.slice L ss.length cL] w (TurnedPost bb (.slice L ss.length cL) G ss w) := by
  obtain ⟨n, hn'⟩ : ∃ n, n = ss.length := ⟨_, rfl⟩
  have HN := Lib.hid hn'
  rw [← hn'] at hn hm ⊢
  clear hn'
  go_enter Tryd.func18, Tryd.ntmps18
  go_wp2_with fail
  go_loopw [3] (fun t wr => ∃ i : Nat, i ≤ n ∧ t = .int .i64 (i : Int) ∧ MkW bb wr (.slice L n cL) G (turnF ss i 0) ∧ Below bb w wr ∧ Fr G n w wr) (fun t _ => n - (intOf t).toNat)
  case atStart => exact ⟨0, by omega, rfl, by rw [turnF_start]; exact hm, .refl _ _, .refl _ _ _⟩
  case round =>
    clear hm
    obtain ⟨i, hi, rfl, hm, hb, hf⟩ := hrel
    by_cases hlt : i < n
    · have hd : decide ((i : Int) < (n : Int)) = true := decide_eq_true (by omega)
      have hii : (i : Int) < (n : Int) := by omega
      have hiS : i < ss.length := by rw [← HN.out]; exact hlt
      obtain ⟨m, hmn⟩ : ∃ m, m = (ss.getD i []).length := ⟨_, rfl⟩
      have HM := Lib.hid hmn
      have ml : m ≤ 4294967296 := by rw [hmn]; exact hl _ (getD_mem hiS)
      have HI := Lib.hid hiS
      clear hmn hiS
      go_wp2_with fail
      go_loopw [4] (fun t wr => ∃ k : Nat, k ≤ m ∧ t = .int .i64 (k : Int) ∧ MkW bb wr (.slice L n cL) G (turnF ss i k) ∧ Below bb w wr ∧ Fr G n w wr) (fun t _ => m - (intOf t).toNat)
      case atStart => exact ⟨0, by omega, rfl, hm, hb, hf⟩
      case round =>
        clear hm hb hf
        obtain ⟨k, hk, rfl, hm, hb, hf⟩ := hrel
        obtain ⟨g, rfl, _, cell⟩ := hm.place (i := i) (by rw [turnF_len]; exact HI.out)
        rw [turnF_at_len _ _ _ HI.out, ← HM.out] at cell
        by_cases hkm : k < m
        · have hd2 : decide ((k : Int) < (m : Int)) = true := decide_eq_true (by omega)
          have hkmi : (k : Int) < (m : Int) := by omega
          obtain ⟨x, hx⟩ : ∃ x, x = nth (ss.getD i []) k := ⟨_, rfl⟩
          obtain ⟨y, hy⟩ : ∃ y, y = mk36 i := ⟨_, rfl⟩
          obtain ⟨f0, c0, hB, hm2⟩ := hm.set (by decide) (i := i) (j := k) (by rw [turnF_len]; exact HI.out) (by rw [turnF_at_len _ _ _ HI.out, ← HM.out]; exact hkm) (bx x y)
          rw [turnF_nth _ _ _ HI.out (by rw [← HM.out]; exact hkm), ← hx] at c0
          rw [hx, hy, turnF_step ss i k HI.out (by rw [← HM.out]; exact hkm), ← hx, ← hy] at hm2
          have hb2 := hb.setCell (p := ⟨G i, k, none⟩) hB (.int .u8 (bx x y))
          have hf2 := (hf.set (i := i) hlt k (.int .u8 (bx x y))).drew
          have hxo : bits .xor .u8 x y = bx x y := rfl
          have ye : (1 : Int) + ((i : Int) % 250) = y := by rw [hy]; unfold mk36; omega
          have yw : IntKind.u8.wrap y = y := by rw [IntKind.wrap_u8', hy]; have := mk36_rng i; omega
          clear hm hb hx hy hf
          go_wp2_with fail
          go_region
          all_goals (
            have hm3 := hm2.drew
            have hb3 := below_drewN hb2 1
            clear hm2 hb2
            go_wp2_with fail
            go_roundw
            case rel => exact ⟨k + 1, by omega, by go_num, hm3, hb3, hf2⟩
            case measure => simp [intOf]; omega)
        · obtain rfl : k = m := by omega
          have hd2 : decide ((k : Int) < (k : Int)) = false := by simp
          rw [HM.out, turnF_next] at hm
          go_wp2_with fail
          go_roundw
          case rel => exact ⟨i + 1, by omega, by go_num, hm, hb, hf⟩
          case measure => simp [intOf]; omega
    · obtain rfl : i = n := by omega
      have hd : decide ((i : Int) < (i : Int)) = false := by simp
      rw [HN.out, turnF_end, ← HN.out] at hm
      have tx := texts_c bb L cL G (turn36 ss) _ (by rw [turn36_len, ← HN.out]; exact hm) (turn36_le hl) (by rw [turn36_len, ← HN.out]; exact hn)
      rw [turn36_len, ← HN.out] at tx
      go_wp2_with fail
      refine tx.mono ?_; rintro e w2 ⟨v, rfl, hv, hb2⟩
      go_wp2_with fail
      go_ret
      have hsz := hb.size
      exact ⟨v, rfl, hv.mono hsz, hm.keep hb2, hb.trans (hb2.mono (Nat.le_trans hbb hsz)), by rw [← HN.out]; exact hf.below hb2⟩

set_option maxHeartbeats 16000000 in
set_option maxRecDepth 20000 in
theorem kept_c (bb : Nat) (L A : Option Addr) (cL cap : Nat) (G : Nat → Nat) (ss : List (List Int)) (w : World) (hm : MkW bb w (.slice L ss.length cL) G ss) (hs : Ss w A cap ss) (hl : ∀ s ∈ ss, s.length ≤ 4294967296) (hn : ss.length ≤ 4294967296) :
    Calls Tryd.prog 15 #[.slice L ss.length cL, .slice A ss.length cap] w (fun e w' => e = .returned (.bool true) ∧ Dr w w') := by
  obtain ⟨n, hn'⟩ : ∃ n, n = ss.length := ⟨_, rfl⟩
  have HN := Lib.hid hn'
  rw [← hn'] at hn hm ⊢
  have nn : ((n : Int) != (n : Int)) = false := by simp
  clear hn'
  go_enter Tryd.func15, Tryd.ntmps15
  go_wp2_with fail
  go_loopw [5] (fun t wr => ∃ i : Nat, i ≤ n ∧ t = .int .i64 (i : Int) ∧ Dr w wr) (fun t _ => n - (intOf t).toNat)
  case atStart => exact ⟨0, by omega, rfl, .refl _⟩
  case round =>
    obtain ⟨i, hi, rfl, nd, rfl⟩ := hrel
    by_cases hlt : i < n
    · have hd : decide ((i : Int) < (n : Int)) = true := decide_eq_true (by omega)
      have hii : (i : Int) < (n : Int) := by omega
      have hiS : i < ss.length := by rw [← HN.out]; exact hlt
      obtain ⟨g, rfl, _, cell⟩ := hm.place (i := i) hiS
      obtain ⟨b, off, rfl, hc⟩ := hs.at_ (by omega)
      have ck := hc i hiS
      obtain ⟨s, hsd⟩ : ∃ s, s = ss.getD i [] := ⟨_, rfl⟩
      have hkb := (hm.blk i hiS).2
      have us : U8 s := by rw [hsd]; exact hs.u8 _ (getD_mem hiS)
      rw [show ss[i] = s by rw [hsd, List.getD_eq_getElem?_getD, List.getElem?_eq_getElem hiS]; rfl] at ck
      rw [← hsd] at cell hkb
      have sl : s.length ≤ 4294967296 := by rw [hsd]; exact hl _ (getD_mem hiS)
      have sw : Sl .u8 w (some ⟨G i, 0, none⟩) (s.length + 70) s := by
        have := hkb.sl s.length (s.length + 70) (by omega) (by omega)
        rwa [List.take_left] at this
      have hcv := fun m => run_str_of (P := Tryd.prog) (w.drewN m) 25 9 5 Tryd.underlying25 Tryd.underlying5 Tryd.underlying9 s.length rfl (sw.drewN m)
      have se := str_eq us us
      rw [decide_eq_true (rfl : s = s)] at se
      obtain ⟨m, hmn⟩ : ∃ m, m = s.length := ⟨_, rfl⟩
      have hcut := fun W => run_to (P := Tryd.prog) W 25 5 Tryd.underlying25 size8 (some ⟨G i, 0, none⟩) m (m + 70) (m + 70) (Nat.le_refl _) ((m : Int) + 70) (by omega)
      have MK : Hid (∀ q, q < 70 → w.cell? ⟨G i, m + q, none⟩ = some (.int .u8 (mk36 i))) := Lib.hid fun q hq => by
        have := hkb.cell (m + q) (by rw [List.length_append, mks36_len]; omega)
        rw [this, hmn, nth_append_right]
        unfold mks36
        rw [nth_replicate _ _ _ hq]
      rw [← hmn] at cell hcv sl
      clear hc hkb sw hiS hsd hmn
      go_wp2_with fail
      go_quiet (fail)
      go_wp2_with fail
      go_quiet (fail)
      go_wp2_with fail
      go_loopw [7] (fun t wr => ∃ q : Nat, q ≤ 70 ∧ t = .int .i64 ((m + q : Nat) : Int) ∧ Dr w wr) (fun t _ => m + 70 - (intOf t).toNat)
      case atStart => exact ⟨0, by omega, by rw [Nat.add_zero], (by repeat (first | exact Dr.refl _ | apply Dr.drewN))⟩
      case round =>
        obtain ⟨q, hq, rfl, nd2, rfl⟩ := hrel
        obtain ⟨j, hj⟩ : ∃ j, j = m + q := ⟨_, rfl⟩
        rw [← hj]
        have HJ := Lib.hid hj
        by_cases hq70 : q < 70
        · have ckm := MK.out q hq70
          rw [← hj] at ckm
          obtain ⟨y, hy⟩ : ∃ y, y = mk36 i := ⟨_, rfl⟩
          rw [← hy] at ckm
          have ye : (1 : Int) + ((i : Int) % 250) = y := by rw [hy]; unfold mk36; omega
          have yw : IntKind.u8.wrap y = y := by rw [IntKind.wrap_u8', hy]; have := mk36_rng i; omega
          have yy : (y != y) = false := by simp
          have hji : (j : Int) < (m : Int) + 70 := by omega
          have hjn : j < m + 70 := by omega
          have hd3 : decide ((j : Int) < (m : Int) + 70) = true := decide_eq_true hji
          have hd4 : decide (j < m + 70) = true := decide_eq_true hjn
          clear hy hj
          go_wp2_with fail
          go_roundw
          case rel => exact ⟨q + 1, by omega, by have := HJ.out; go_num, (by repeat (first | exact Dr.refl _ | apply Dr.drewN))⟩
          case measure => have := HJ.out; simp [intOf]; omega
        · have hji : ¬ (j : Int) < (m : Int) + 70 := by omega
          have hjn : ¬ j < m + 70 := by omega
          have hd3 : decide ((j : Int) < (m : Int) + 70) = false := decide_eq_false hji
          have hd4 : decide (j < m + 70) = false := decide_eq_false hjn
          clear hj
          go_wp2_with fail
          go_roundw
          case rel => exact ⟨i + 1, by omega, by go_num, (by repeat (first | exact Dr.refl _ | apply Dr.drewN))⟩
          case measure => simp [intOf]; omega
    · obtain rfl : i = n := by omega
      have hd : decide ((i : Int) < (i : Int)) = false := by simp
      go_wp2_with fail
      go_ret
      exact ⟨rfl, (by repeat (first | exact Dr.refl _ | apply Dr.drewN))⟩
end Go.Proofs.YtmbifokiebjmmaaDoor
