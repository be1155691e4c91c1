/- Marked lists of the call's own: stores; lists written over. No program in sight. -/
import Derived.Test.YtmbifokiebjmmaaDoorMkN
import Derived.Test.YtmbifokiebjmmaaDoorHmacN
import Derived.Test.YtmbifokiebjmmaaDoorSliceN
set_option linter.unusedVariables false
set_option linter.unusedSimpArgs false
namespace Go.Sg
open Go.RowKit
theorem getD_mem {ss : List (List Int)} {j : Nat} (h : j < ss.length) : ss.getD j [] ∈ ss := by
  rw [List.getD_eq_getElem?_getD, List.getElem?_eq_getElem h]
  exact List.getElem_mem _
theorem getD_set' {ss : List (List Int)} {i j : Nat} {x : List Int} (hi : i < ss.length) : (ss.set i x).getD j [] = if i = j then x else ss.getD j [] := by
  rw [List.getD_eq_getElem?_getD, List.getD_eq_getElem?_getD, List.getElem?_set]
  split
  · next h => subst h; simp [hi]
  · rfl
section
variable {B : Nat} {E T : TypeId} {w w' : World} {l : Value} {G : Nat → Nat} {ss : List (List Int)}
theorem MkL.congr {ss' : List (List Int)} (h : MkL B E T w l G ss) (e : ss = ss') : MkL B E T w l G ss' := e ▸ h
/-- The row's place. -/
theorem MkL.place {a : Option Addr} {n c i : Nat} (h : MkL B E T w (.slice a n c) G ss) (hi : i < ss.length) : ∃ g, a = some ⟨g, 0, none⟩ ∧ g < w.heap.size ∧ w.cell? ⟨g, i, none⟩ = some (.slice (some ⟨G i, 0, none⟩) (ss.getD i []).length ((ss.getD i []).length + 70)) := by
  obtain ⟨g, ha, _, hc⟩ := h.row.cell i (by simpa using hi)
  subst ha
  refine ⟨g, rfl, (h.row.lt g rfl).2, ?_⟩
  rw [hc]
  simp [mval]
/-- A number is stored into one of the lists. -/
theorem MkL.set (h : MkL B E T w l G ss) (hET : E ≠ T) {i j : Nat} (hi : i < ss.length) (hj : j < (ss.getD i []).length) (x : Int) :
    w.frozen? ⟨G i, j, none⟩ = false ∧ w.cell? ⟨G i, j, none⟩ = some (.int .u8 (nth (ss.getD i []) j)) ∧ B ≤ G i ∧ MkL B E T (w.setCell ⟨G i, j, none⟩ (.int .u8 x)) l G (ss.set i ((ss.getD i []).set j x)) := by
  obtain ⟨hB, hk⟩ := h.blk i hi
  have hc := hk.cell j (by rw [List.length_append]; omega)
  rw [nth_append_left _ _ _ hj] at hc
  refine ⟨hk.free j, hc, hB, ⟨?_, fun m hm => ?_, fun a b ha hb => ?_⟩⟩
  · have e : (List.range (ss.set i ((ss.getD i []).set j x)).length).map (mval G (ss.set i ((ss.getD i []).set j x))) = (List.range ss.length).map (mval G ss) := by
      rw [List.length_set]
      refine List.map_congr_left fun m hm => ?_
      unfold mval
      rw [getD_set' hi]
      split
      · next e => subst e; rw [List.length_set]
      · rfl
    rw [e]
    refine h.row.kept (grownBy_set w ⟨G i, j, none⟩ (.int .u8 x)) ?_
    cases hl : l.ownBlock with
    | none => exact .inl rfl
    | some q => exact .inr fun e => h.aside hET hi q hl (Option.some.inj e).symm
  · rw [List.length_set] at hm
    refine ⟨(h.blk m hm).1, ?_⟩
    rw [getD_set' hi]
    by_cases e : i = m
    · subst e
      rw [if_pos rfl]
      have := hk.set j x
      rwa [List.set_append_left _ _ hj] at this
    · rw [if_neg e]
      exact (h.blk m hm).2.other (h.apart m i hm hi (fun e2 => e e2.symm)) j _
  · rw [List.length_set] at ha hb
    exact h.apart a b ha hb
end
/-- List j written over. -/
def tl36 (j : Nat) (s : List Int) : List Int := s.map fun x => bx x (mk36 j)
def turnF (ss : List (List Int)) (i k : Nat) : List (List Int) := ss.mapIdx fun j s => if j < i then tl36 j s else if j = i then tl36 i (s.take k) ++ s.drop k else s
def turn36 (ss : List (List Int)) : List (List Int) := ss.mapIdx tl36
theorem turnF_len (ss : List (List Int)) (i k : Nat) : (turnF ss i k).length = ss.length := List.length_mapIdx
theorem turn36_len (ss : List (List Int)) : (turn36 ss).length = ss.length := List.length_mapIdx
theorem tl36_len (j : Nat) (s : List Int) : (tl36 j s).length = s.length := List.length_map _
theorem tl36_u8 (j : Nat) (s : List Int) : U8 (tl36 j s) := .of_mem (by decide) fun x hx => by
  obtain ⟨y, _, rfl⟩ := List.mem_map.1 hx
  exact bx_rng _ _
theorem ext_getD {a b : List (List Int)} (hl : a.length = b.length) (h : ∀ j, j < a.length → a.getD j [] = b.getD j []) : a = b := by
  apply List.ext_getElem hl
  intro j h1 h2
  have := h j h1
  rw [List.getD_eq_getElem?_getD, List.getD_eq_getElem?_getD, List.getElem?_eq_getElem h1, List.getElem?_eq_getElem h2] at this
  exact this
theorem turnF_getD (ss : List (List Int)) (i k j : Nat) (h : j < ss.length) : (turnF ss i k).getD j [] = if j < i then tl36 j (ss.getD j []) else if j = i then tl36 i ((ss.getD j []).take k) ++ (ss.getD j []).drop k else ss.getD j [] := by
  unfold turnF
  rw [List.getD_eq_getElem?_getD, List.getElem?_mapIdx, List.getElem?_eq_getElem h, List.getD_eq_getElem?_getD, List.getElem?_eq_getElem h]
  rfl
theorem turn36_getD (ss : List (List Int)) (j : Nat) (h : j < ss.length) : (turn36 ss).getD j [] = tl36 j (ss.getD j []) := by
  unfold turn36
  rw [List.getD_eq_getElem?_getD, List.getElem?_mapIdx, List.getElem?_eq_getElem h, List.getD_eq_getElem?_getD, List.getElem?_eq_getElem h]
  rfl
theorem turnF_start (ss : List (List Int)) : turnF ss 0 0 = ss := by
  refine ext_getD (turnF_len _ _ _) fun j hj => ?_
  rw [turnF_len] at hj
  rw [turnF_getD _ _ _ _ hj, if_neg (by omega)]
  split <;> rfl
theorem turnF_at (ss : List (List Int)) (i k : Nat) (hi : i < ss.length) : (turnF ss i k).getD i [] = tl36 i ((ss.getD i []).take k) ++ (ss.getD i []).drop k := by
  rw [turnF_getD _ _ _ _ hi, if_neg (by omega), if_pos rfl]
theorem turnF_at_len (ss : List (List Int)) (i k : Nat) (hi : i < ss.length) : ((turnF ss i k).getD i []).length = (ss.getD i []).length := by
  rw [turnF_at _ _ _ hi, List.length_append, tl36_len, List.length_take, List.length_drop]
  omega
theorem turnF_nth (ss : List (List Int)) (i k : Nat) (hi : i < ss.length) (hk : k < (ss.getD i []).length) : nth ((turnF ss i k).getD i []) k = nth (ss.getD i []) k := by
  rw [turnF_at _ _ _ hi]
  have hl : (tl36 i ((ss.getD i []).take k)).length = k := by rw [tl36_len, List.length_take]; omega
  have := nth_append_right (tl36 i ((ss.getD i []).take k)) ((ss.getD i []).drop k) 0
  rw [hl, Nat.add_zero] at this
  rw [this, nth_drop, Nat.add_zero]
theorem turnF_step (ss : List (List Int)) (i k : Nat) (hi : i < ss.length) (hk : k < (ss.getD i []).length) :
    (turnF ss i k).set i (((turnF ss i k).getD i []).set k (bx (nth (ss.getD i []) k) (mk36 i))) = turnF ss i (k + 1) := by
  refine ext_getD (by rw [List.length_set, turnF_len, turnF_len]) fun j hj => ?_
  rw [List.length_set, turnF_len] at hj
  rw [getD_set' (by rw [turnF_len]; exact hi)]
  by_cases e : i = j
  · subst e
    rw [if_pos rfl, turnF_at _ _ _ hi, turnF_at _ _ _ hi]
    have hl : (tl36 i ((ss.getD i []).take k)).length = k := by rw [tl36_len, List.length_take]; omega
    rw [List.set_append_right _ _ (by omega), hl, Nat.sub_self, drop_nth _ _ hk, List.set_cons_zero, take_succ_nth _ _ hk]
    unfold tl36
    rw [List.map_append, List.map_singleton, List.append_assoc]
    rfl
  · rw [if_neg e, turnF_getD _ _ _ _ hj, turnF_getD _ _ _ _ hj, if_neg (fun h => e h.symm : ¬ j = i), if_neg (fun h => e h.symm : ¬ j = i)]
theorem turnF_next (ss : List (List Int)) (i : Nat) : turnF ss i (ss.getD i []).length = turnF ss (i + 1) 0 := by
  refine ext_getD (by rw [turnF_len, turnF_len]) fun j hj => ?_
  rw [turnF_len] at hj
  rw [turnF_getD _ _ _ _ hj, turnF_getD _ _ _ _ hj]
  by_cases c : j < i
  · rw [if_pos c, if_pos (by omega)]
  · rw [if_neg c]
    by_cases e : j = i
    · subst e
      rw [if_pos rfl, if_pos (by omega), List.take_length, List.drop_length, List.append_nil]
    · rw [if_neg e, if_neg (by omega)]
      split
      · next h => subst h; simp [tl36]
      · rfl
theorem turnF_end (ss : List (List Int)) : turnF ss ss.length 0 = turn36 ss := by
  refine ext_getD (by rw [turnF_len, turn36_len]) fun j hj => ?_
  rw [turnF_len] at hj
  rw [turnF_getD _ _ _ _ hj, turn36_getD _ _ hj, if_pos hj]
theorem mem_getD {ss : List (List Int)} {s : List Int} (h : s ∈ ss) : ∃ j, j < ss.length ∧ ss.getD j [] = s := by
  obtain ⟨j, hj, rfl⟩ := List.getElem_of_mem h
  exact ⟨j, hj, by rw [List.getD_eq_getElem?_getD, List.getElem?_eq_getElem hj]; rfl⟩
theorem turn36_u8 (ss : List (List Int)) : ∀ s ∈ turn36 ss, U8 s := by
  intro s hs
  obtain ⟨j, hj, rfl⟩ := mem_getD hs
  rw [turn36_len] at hj
  rw [turn36_getD _ _ hj]
  exact tl36_u8 _ _
theorem turn36_le {ss : List (List Int)} {m : Nat} (h : ∀ s ∈ ss, s.length ≤ m) : ∀ s ∈ turn36 ss, s.length ≤ m := by
  intro s hs
  obtain ⟨j, hj, rfl⟩ := mem_getD hs
  rw [turn36_len] at hj
  rw [turn36_getD _ _ hj, tl36_len]
  exact h _ (getD_mem hj)
end Go.Sg
