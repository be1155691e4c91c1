/- Families of lists of the call's own, laid in a row. No program in sight. -/
import Derived.Test.YtnlmkikaaifcmaaFamN
import Derived.Test.YtnlmkikaaifcmaaRowsC
set_option linter.unusedVariables false
set_option linter.unusedSimpArgs false
namespace Go.Sg
open Go.RowKit
theorem range_push {V V' : Nat → Value} {n : Nat} {v : Value} (h1 : ∀ j, j < n → V' j = V j) (h2 : V' n = v) : (List.range (n + 1)).map V' = (List.range n).map V ++ [v] := by
  rw [List.range_succ, List.map_append, List.map_cons, List.map_nil, h2]
  congr 1
  exact List.map_congr_left fun j hj => h1 j (List.mem_range.1 hj)
section
variable {B n : Nat} {k : IntKind} {E T : TypeId} {w w' : World} {V : Nat → Value} {A : Nat → List Int}
/-- One more list, made since: the row and the lists by new names. -/
theorem FamV.push' {v : Value} {xs : List Int} (h : FamV B k E w n V A) (hv : New B k E w' v xs) (hb : Below w.heap.size w w') (hf : ∀ g, v.ownBlock = some g → w.heap.size ≤ g) :
    ∃ V' A', FamV B k E w' (n + 1) V' A' ∧ (List.range (n + 1)).map V' = (List.range n).map V ++ [v] ∧ (∀ j, j < n → A' j = A j) ∧ A' n = xs ∧ (∀ j, j < n → V' j = V j) ∧ V' n = v := by
  have e1 : ∀ j, j < n → (if j < n then V j else v) = V j := fun j hj => if_pos hj
  have e2 : (if n < n then V n else v) = v := if_neg (by omega)
  exact ⟨_, _, h.push hv hb hf, range_push e1 e2, fun j hj => if_pos hj, if_neg (by omega), e1, e2⟩
/-- A row whose places are the slices of n lists. -/
structure Lists (B : Nat) (k : IntKind) (E T : TypeId) (w : World) (l : Value) (n : Nat) (V : Nat → Value) (A : Nat → List Int) : Prop where
  row : NewV B T w l ((List.range n).map V)
  fam : FamV B k E w n V A
theorem Lists.keep {l : Value} (h : Lists B k E T w l n V A) (hb : Below w.heap.size w w') : Lists B k E T w' l n V A := ⟨h.row.keep hb, h.fam.keep hb⟩
theorem Lists.sl {l : Value} (h : Lists B k E T w l n V A) : ∃ a c, l = .slice a n c := by
  obtain ⟨a, c, e⟩ := h.row.sl
  rw [List.length_map, List.length_range] at e
  exact ⟨a, c, e⟩
theorem NewV.place {a : Option Addr} {m c i : Nat} (h : NewV B T w (.slice a m c) ((List.range n).map V)) (hi : i < n) : ∃ g, a = some ⟨g, 0, none⟩ ∧ w.cell? ⟨g, i, none⟩ = some (V i) := by
  obtain ⟨g, ha, _, hc⟩ := h.cell i (by simpa using hi)
  refine ⟨g, ha, ?_⟩
  rw [hc]
  simp
/-- A number is stored into one of the lists. -/
theorem Lists.set {l : Value} (h : Lists B k E T w l n V A) (hne : E ≠ T) {i j : Nat} (hi : i < n) (hj : j < (A i).length) (x : Int) {g o c : Nat} (hv : V i = .slice (some ⟨g, o, none⟩) (A i).length c) :
    o = 0 ∧ w.frozen? ⟨g, j, none⟩ = false ∧ w.cell? ⟨g, j, none⟩ = some (.int k (nth (A i) j)) ∧ B ≤ g ∧ g < w.heap.size ∧ Lists B k E T (w.setCell ⟨g, j, none⟩ (.int k x)) l n V (fun m => if m = i then (A i).set j x else A m) := by
  obtain ⟨h0, h1, h2, h3, h4, h5⟩ := h.fam.set hi hj x hv
  refine ⟨h0, h1, h2, h3, h4, ?_, h5⟩
  have hn := h.fam.new i hi
  have hg : (V i).ownBlock = some g := by rw [hv]; rfl
  have ha := h.row.aside' hn hne g hg
  refine h.row.kept (grownBy_set w ⟨g, j, none⟩ (.int k x)) ?_
  cases hl : l.ownBlock with
  | none => exact .inl rfl
  | some q => exact .inr fun e => ha (by rw [hl, e])
theorem Lists.congr {l : Value} {A' : Nat → List Int} (h : Lists B k E T w l n V A) (e : ∀ i, i < n → A i = A' i) : Lists B k E T w l n V A' := ⟨h.row, h.fam.congr e⟩
end
theorem cells_news (w : World) (E : TypeId) (us : List Value) (arr : Array Value) (he : arr = us.toArray) (g : Nat) (hg : g = w.heap.size) : ∀ (j : Nat) (x : Value), us[j]? = some x → (w.alloc (.cells arr E)).cell? ((⟨g, 0, none⟩ : Addr).add j) = some x := by
  intro j x hx
  subst he hg
  have hadd : (⟨w.heap.size, 0, none⟩ : Addr).add j = ⟨w.heap.size, j, none⟩ := by unfold Addr.add; split <;> simp_all
  rw [hadd, cell_of_row (w.alloc (.cells us.toArray E)) w.heap.size j us.toArray E (0, 0) (Go.heap_alloc_new w _)]
  simpa using hx
/-- A row and its lists, when the row has grown by an append. -/
theorem Lists.grow {B n n' : Nat} {k : IntKind} {E T : TypeId} {w w' : World} {V V' : Nat → Value} {A' : Nat → List Int} {l l' : Value} {us : List Value} (hr : NewV B T w l ((List.range n).map V)) (hf : FamV B k E w n' V' A') (hne : E ≠ T)
    (h1 : NewV B T w' l' ((List.range n).map V ++ us)) (hg : w.grownBy w' l.ownBlock) (e : (List.range n').map V' = (List.range n).map V ++ us) : Lists B k E T w' l' n' V' A' :=
  ⟨by rw [e]; exact h1, hf.grown hg fun i hi g hv => hr.aside' (hf.new i hi) hne g hv⟩
/-- A row whose places are slices is no block of numbers. -/
theorem NewV.aside_blk {B g : Nat} {E E' : TypeId} {k : IntKind} {w : World} {v : Value} {vs : List Value} {xs : List Int} (h : NewV B E w v vs) (hu : Blk w g k E' xs) (hne : E' ≠ E) : some g ≠ v.ownBlock := by
  intro e
  rcases h with ⟨rfl, _⟩ | ⟨g', cp, cs, rfl, hbg, hh, _⟩
  · simp [Value.ownBlock] at e
  · simp only [Value.ownBlock, Option.some.injEq] at e
    subst e
    have h2 : w.heap[g]? = _ := hu
    rw [hh] at h2
    simp only [Option.some.injEq, Obj.cells.injEq] at h2
    exact hne h2.2.1.symm
theorem fill_at (z : List Int) (k : Nat) (x : Int) (hk : k < z.length) : (List.replicate k x ++ z.drop k).set k x = List.replicate (k + 1) x ++ z.drop (k + 1) := by
  rw [List.set_append_right _ _ (by rw [List.length_replicate]; omega), List.length_replicate, Nat.sub_self, List.drop_eq_getElem_cons hk, List.set_cons_zero, List.replicate_succ', List.append_assoc]
  rfl
theorem Lists.put {B n i j : Nat} {k : IntKind} {E T : TypeId} {w : World} {V : Nat → Value} {A : Nat → List Int} {l : Value} (h : Lists B k E T w l n V A) (hne : E ≠ T) (hi : i < n) (hj : j < (A i).length) (x : Int) :
    ∃ g c, V i = .slice (some ⟨g, 0, none⟩) (A i).length c ∧ w.frozen? ⟨g, j, none⟩ = false ∧ w.cell? ⟨g, j, none⟩ = some (.int k (nth (A i) j)) ∧ B ≤ g ∧ Lists B k E T (w.setCell ⟨g, j, none⟩ (.int k x)) l n V (fun m => if m = i then (A i).set j x else A m) := by
  obtain ⟨a, c, hv, hs, _⟩ := h.fam.own hi
  obtain ⟨b, off, rfl, _⟩ := hs.cells (by omega)
  obtain ⟨rfl, h1, h2, h3, _, h5⟩ := h.set hne hi hj x hv
  exact ⟨b, c, hv, h1, h2, h3, h5⟩
/-- The first i lists written full with a number of their own; of list i the first t places too. -/
def fillF (f : Nat → Int) (A : Nat → List Int) (i t : Nat) : Nat → List Int := fun j => if j < i then List.replicate (A j).length (f j) else if j = i then List.replicate t (f i) ++ (A i).drop t else A j
theorem fillF_start (f : Nat → Int) (A : Nat → List Int) (j : Nat) : fillF f A 0 0 j = A j := by
  unfold fillF
  rw [if_neg (by omega)]
  split
  · next h => rw [h]; rfl
  · rfl
theorem fillF_step (f : Nat → Int) (A : Nat → List Int) (i t : Nat) (ht : t < (A i).length) (j : Nat) : (if j = i then (fillF f A i t i).set t (f i) else fillF f A i t j) = fillF f A i (t + 1) j := by
  unfold fillF
  by_cases h1 : j = i
  · subst h1
    rw [if_pos rfl, if_neg (by omega), if_pos rfl, if_neg (by omega), if_pos rfl]
    exact fill_at _ _ _ ht
  · rw [if_neg h1, if_neg h1, if_neg h1]
theorem fillF_next (f : Nat → Int) (A : Nat → List Int) (i j : Nat) : fillF f A i (A i).length j = fillF f A (i + 1) 0 j := by
  unfold fillF
  by_cases h1 : j < i
  · rw [if_pos h1, if_pos (by omega)]
  · rw [if_neg h1]
    by_cases h2 : j = i
    · subst h2
      rw [if_pos rfl, if_pos (by omega), List.drop_length, List.append_nil]
    · rw [if_neg h2, if_neg (by omega)]
      split
      · next h3 => rw [h3]; simp
      · rfl
theorem fillF_len (f : Nat → Int) (A : Nat → List Int) (i t j : Nat) (ht : t ≤ (A i).length) : (fillF f A i t j).length = (A j).length := by
  unfold fillF
  split
  · exact List.length_replicate
  · split
    · next h => rw [h, List.length_append, List.length_replicate, List.length_drop]; omega
    · rfl
/-- What has grown: behind the first i lists n numbers of their own each, behind list i t of them. -/
def growF (f : Nat → Int) (n i t : Nat) : Nat → List Int := fun j => if j < i then List.replicate n (f j) else if j = i then List.replicate t (f i) else []
theorem growF_start (f : Nat → Int) (n j : Nat) : growF f n 0 0 j = [] := by
  unfold growF
  rw [if_neg (by omega)]
  split <;> rfl
theorem growF_step (f : Nat → Int) (n i t j : Nat) : (if j = i then growF f n i t i ++ [f i] else growF f n i t j) = growF f n i (t + 1) j := by
  unfold growF
  by_cases h1 : j = i
  · subst h1
    rw [if_pos rfl, if_neg (by omega), if_pos rfl, if_neg (by omega), if_pos rfl, List.replicate_succ']
  · rw [if_neg h1, if_neg h1, if_neg h1]
theorem growF_next (f : Nat → Int) (n i j : Nat) : growF f n i n j = growF f n (i + 1) 0 j := by
  unfold growF
  by_cases h1 : j < i
  · rw [if_pos h1, if_pos (by omega)]
  · rw [if_neg h1]
    by_cases h2 : j = i
    · subst h2
      rw [if_pos rfl, if_pos (by omega)]
    · rw [if_neg h2, if_neg (by omega)]
      split <;> rfl
theorem growF_at (f : Nat → Int) (n i t : Nat) : growF f n i t i = List.replicate t (f i) := by
  unfold growF
  rw [if_neg (by omega), if_pos rfl]
theorem NewV.keptN {B B' : Nat} {k : IntKind} {E E' : TypeId} {w w' : World} {v u : Value} {vs : List Value} {xs : List Int} (h : NewV B E w v vs) (hu : New B' k E' w u xs) (hne : E' ≠ E) (hg : w.grownBy w' u.ownBlock) : NewV B E w' v vs := by
  refine h.kept hg ?_
  cases hv : v.ownBlock with
  | none => exact .inl rfl
  | some g => exact .inr fun e => h.aside' hu hne g e.symm (by rw [hv])
/-- How a list that was overwritten, and grew, is told. -/
theorem grown_lo {n j k : Nat} {x y : Int} (hk : k < n) : nth (List.replicate n x ++ List.replicate j y) k = x := by
  rw [nth_append_left _ _ _ (by rw [List.length_replicate]; exact hk), nth_get _ _ (by rw [List.length_replicate]; exact hk)]
  simp
theorem grown_hi {n j k : Nat} {x y : Int} (hk : n ≤ k) (hj : k < n + j) : nth (List.replicate n x ++ List.replicate j y) k = y := by
  obtain ⟨i, rfl⟩ : ∃ i, k = n + i := ⟨k - n, by omega⟩
  have := nth_append_right (List.replicate n x) (List.replicate j y) i
  rw [List.length_replicate] at this
  rw [this, nth_get _ _ (by rw [List.length_replicate]; omega)]
  simp
theorem rep_nth {n k : Nat} {x : Int} (hk : k < n) : nth (List.replicate n x) k = x := by
  rw [nth_get _ _ (by rw [List.length_replicate]; exact hk)]
  simp
end Go.Sg
