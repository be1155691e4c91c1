import Derived.WalkKit
import Derived.WalkSpells
import Derived.WalkLawsBesides
import Derived.Lib.Hide
/- Slices of numbers in memory: how they read, new rows, and the laws of make, append and copy in these words. No program in sight. -/
set_option linter.unusedVariables false
set_option linter.unusedSimpArgs false
namespace Go.Sg
open Go.RowKit

/-- The number at a place; 0 behind the end. -/
def nth (xs : List Int) (i : Nat) : Int := xs.getD i 0

theorem nth_get (xs : List Int) (i : Nat) (h : i < xs.length) : nth xs i = xs[i] := by simp [nth, h]
theorem nth_out (xs : List Int) (i : Nat) (h : xs.length ≤ i) : nth xs i = 0 := by simp [nth, h]
theorem nth_set (xs : List Int) (i j : Nat) (x : Int) (h : i < xs.length) : nth (xs.set i x) j = if i = j then x else nth xs j := by
  simp only [nth, List.getD_eq_getElem?_getD, List.getElem?_set, h, if_true]
  split <;> rfl
theorem nth_take (xs : List Int) (n i : Nat) (h : i < n) : nth (xs.take n) i = nth xs i := by
  simp [nth, h]
theorem nth_drop (xs : List Int) (n i : Nat) : nth (xs.drop n) i = nth xs (n + i) := by
  simp [nth, List.getElem?_drop]
theorem nth_append_left (xs ys : List Int) (i : Nat) (h : i < xs.length) : nth (xs ++ ys) i = nth xs i := by
  simp [nth, List.getElem?_append, h]
theorem nth_append_right (xs ys : List Int) (i : Nat) : nth (xs ++ ys) (xs.length + i) = nth ys i := by
  have h : ¬ xs.length + i < xs.length := by omega
  simp [nth, List.getElem?_append, h]
theorem nth_replicate (n : Nat) (x : Int) (i : Nat) (h : i < n) : nth (List.replicate n x) i = x := by
  simp [nth, h]
theorem nth_replicate0 (n i : Nat) : nth (List.replicate n 0) i = 0 := by
  simp only [nth, List.getD_eq_getElem?_getD, List.getElem?_replicate]; split <;> rfl
theorem nth_mem (xs : List Int) (i : Nat) (h : i < xs.length) : nth xs i ∈ xs := by
  rw [nth_get _ _ h]; exact List.getElem_mem _
theorem take_succ_nth (xs : List Int) (k : Nat) (h : k < xs.length) : xs.take (k + 1) = xs.take k ++ [nth xs k] := by
  rw [List.take_succ_eq_append_getElem h, nth_get _ _ h]
theorem drop_nth (xs : List Int) (k : Nat) (h : k < xs.length) : xs.drop k = nth xs k :: xs.drop (k + 1) := by
  rw [List.drop_eq_getElem_cons h, nth_get _ _ h]
theorem ext_nth (xs ys : List Int) (hl : xs.length = ys.length) (h : ∀ i, i < xs.length → nth xs i = nth ys i) : xs = ys := by
  apply List.ext_getElem hl
  intro i h1 h2
  have := h i h1
  rwa [nth_get _ _ h1, nth_get _ _ h2] at this

/-- Numbers within their bound (0 behind the end is, too). -/
def InR (m : Int) (xs : List Int) : Prop := ∀ i, 0 ≤ nth xs i ∧ nth xs i ≤ m
abbrev U32 (xs : List Int) : Prop := InR 4294967295 xs
abbrev U8 (xs : List Int) : Prop := InR 255 xs

theorem InR.mem {m : Int} {xs : List Int} (h : InR m xs) : ∀ x ∈ xs, 0 ≤ x ∧ x ≤ m := by
  intro x hx
  obtain ⟨i, hi, rfl⟩ := List.getElem_of_mem hx
  have := h i
  rwa [nth_get _ _ hi] at this
theorem InR.of_mem {m : Int} {xs : List Int} (hm : 0 ≤ m) (h : ∀ x ∈ xs, 0 ≤ x ∧ x ≤ m) : InR m xs := by
  intro i
  by_cases hi : i < xs.length
  · exact h _ (nth_mem _ _ hi)
  · rw [nth_out _ _ (by omega)]; omega
theorem InR.nil {m : Int} (hm : 0 ≤ m) : InR m [] := .of_mem hm (by simp)
theorem InR.append {m : Int} {xs ys : List Int} (hm : 0 ≤ m) (h : InR m xs) (h' : InR m ys) : InR m (xs ++ ys) :=
  .of_mem hm fun x hx => by
    rcases List.mem_append.1 hx with hx | hx
    · exact h.mem x hx
    · exact h'.mem x hx
theorem InR.one {m x : Int} (h0 : 0 ≤ x) (h1 : x ≤ m) : InR m [x] := .of_mem (by omega) (by simp; omega)
theorem InR.set {m : Int} {xs : List Int} (h : InR m xs) (i : Nat) {x : Int} (h0 : 0 ≤ x) (h1 : x ≤ m) : InR m (xs.set i x) :=
  .of_mem (by omega) fun y hy => by
    rcases List.mem_or_eq_of_mem_set hy with hy | rfl
    · exact h.mem y hy
    · exact ⟨h0, h1⟩
theorem InR.take {m : Int} {xs : List Int} (hm : 0 ≤ m) (h : InR m xs) (n : Nat) : InR m (xs.take n) := .of_mem hm fun x hx => h.mem x (List.mem_of_mem_take hx)
theorem InR.drop {m : Int} {xs : List Int} (hm : 0 ≤ m) (h : InR m xs) (n : Nat) : InR m (xs.drop n) := .of_mem hm fun x hx => h.mem x (List.mem_of_mem_drop hx)
theorem InR.zeros {m : Int} (hm : 0 ≤ m) (n : Nat) : InR m (List.replicate n 0) := fun i => by rw [nth_replicate0]; omega
theorem InR.reverse {m : Int} {xs : List Int} (hm : 0 ≤ m) (h : InR m xs) : InR m xs.reverse := .of_mem hm fun x hx => h.mem x (by simpa using hx)

/-- The cells behind an address that may be missing where there is nothing to read. -/
def Cells (k : IntKind) (w : World) (a : Option Addr) (xs : List Int) : Prop :=
  0 < xs.length → ∃ b off, a = some ⟨b, off, none⟩ ∧ ∀ j, j < xs.length → w.cell? ⟨b, off + j, none⟩ = some (.int k (nth xs j))

theorem Cells.nil (k : IntKind) (w : World) (a : Option Addr) : Cells k w a [] := fun h => by simp at h
theorem Cells.take {k : IntKind} {w : World} {a : Option Addr} {xs : List Int} (h : Cells k w a xs) (n : Nat) : Cells k w a (xs.take n) := by
  intro hl
  simp only [List.length_take] at hl
  obtain ⟨b, off, ha, hc⟩ := h (by omega)
  refine ⟨b, off, ha, fun j hj => ?_⟩
  simp only [List.length_take] at hj
  rw [hc j (by omega), nth_take _ _ _ (by omega)]
theorem Cells.lt {k : IntKind} {w : World} {b off : Nat} {xs : List Int} (h : Cells k w (some ⟨b, off, none⟩) xs) (hp : 0 < xs.length) : b < w.heap.size := by
  obtain ⟨b', off', ha, hc⟩ := h hp
  simp only [Option.some.injEq, Addr.mk.injEq, and_true] at ha
  obtain ⟨rfl, rfl⟩ := ha
  exact World.block_lt_of_cell? w _ (hc 0 hp)
theorem Cells.same {k : IntKind} {w w' : World} {a : Option Addr} {xs : List Int} (h : Cells k w a xs)
    (hb : ∀ b off, a = some ⟨b, off, none⟩ → b < w.heap.size → w'.heap[b]? = w.heap[b]?) : Cells k w' a xs := by
  intro hp
  obtain ⟨b, off, ha, hc⟩ := h hp
  refine ⟨b, off, ha, fun j hj => ?_⟩
  rw [World.cell?_of_block (w := w) (hb b off ha (World.block_lt_of_cell? w _ (hc j hj)))]
  exact hc j hj
theorem Cells.below {k : IntKind} {w w' : World} {a : Option Addr} {xs : List Int} (h : Cells k w a xs) (hb : Below w.heap.size w w') : Cells k w' a xs :=
  h.same fun b _ _ hlt => hb.block b hlt
theorem Cells.drewN {k : IntKind} {w : World} {a : Option Addr} {xs : List Int} (h : Cells k w a xs) (n : Nat) : Cells k (w.drewN n) a xs :=
  h.same fun _ _ _ _ => rfl

/-- A slice value that reads as these numbers. -/
structure Sl (k : IntKind) (w : World) (a : Option Addr) (cap : Nat) (xs : List Int) : Prop where
  le : xs.length ≤ cap
  max : cap ≤ 9223372036854775807
  cells : Cells k w a xs

theorem Sl.below {k : IntKind} {w w' : World} {a : Option Addr} {cap : Nat} {xs : List Int} (h : Sl k w a cap xs) (hb : Below w.heap.size w w') : Sl k w' a cap xs := ⟨h.le, h.max, h.cells.below hb⟩
theorem Sl.drewN {k : IntKind} {w : World} {a : Option Addr} {cap : Nat} {xs : List Int} (h : Sl k w a cap xs) (n : Nat) : Sl k (w.drewN n) a cap xs := ⟨h.le, h.max, h.cells.drewN n⟩
theorem Sl.take {k : IntKind} {w : World} {a : Option Addr} {cap : Nat} {xs : List Int} (h : Sl k w a cap xs) (n : Nat) : Sl k w a cap (xs.take n) :=
  ⟨by have := h.le; simp; omega, h.max, h.cells.take n⟩
theorem Sl.nil (k : IntKind) (w : World) (a : Option Addr) (cap : Nat) (h : cap ≤ 9223372036854775807) : Sl k w a cap [] := ⟨by simp, h, .nil _ _ _⟩
/-- The same numbers with no spare room. -/
theorem Sl.short {k : IntKind} {w : World} {a : Option Addr} {cap : Nat} {xs : List Int} (h : Sl k w a cap xs) : Sl k w a xs.length xs := ⟨Nat.le_refl _, Nat.le_trans h.le h.max, h.cells⟩

/-- A whole row of numbers, not frozen. -/
def Blk (w : World) (g : Nat) (k : IntKind) (E : TypeId) (xs : List Int) : Prop := w.heap[g]? = some (.cells (xs.map (Value.int k)).toArray E (0, 0))

section
variable {w : World} {g : Nat} {k : IntKind} {E : TypeId} {xs : List Int}
theorem Blk.lt (h : Blk w g k E xs) : g < w.heap.size := (Array.getElem?_eq_some_iff.1 h).1
theorem Blk.cell (h : Blk w g k E xs) (i : Nat) (hi : i < xs.length) : w.cell? ⟨g, i, none⟩ = some (.int k (nth xs i)) := by
  rw [cell_of_row w g i _ E (0, 0) h]
  simp [hi, nth_get]
theorem Blk.cell0 (h : Blk w g k E xs) (i : Nat) (hi : i < xs.length) : w.cell? ⟨g, 0 + i, none⟩ = some (.int k (nth xs i)) := by
  rw [Nat.zero_add]; exact h.cell i hi
theorem Blk.free (h : Blk w g k E xs) (i : Nat) : w.frozen? ⟨g, i, none⟩ = false := frozen_of_row w g i _ E h
theorem Blk.set (h : Blk w g k E xs) (i : Nat) (x : Int) : Blk (w.setCell ⟨g, i, none⟩ (.int k x)) g k E (xs.set i x) := by
  have := heap_setCell_same w g i _ E (.int k x) h
  rw [Blk, this, List.map_set]
  simp
theorem Blk.other (h : Blk w g k E xs) {b : Nat} (hb : g ≠ b) (i : Nat) (v : Value) : Blk (w.setCell ⟨b, i, none⟩ v) g k E xs := by
  rw [Blk, heap_setCell_other _ _ _ _ hb]; exact h
theorem Blk.below {w' : World} {B : Nat} (h : Blk w g k E xs) (hb : Below B w w') (hg : g < B) : Blk w' g k E xs := (hb.block g hg).trans h
theorem Blk.grown {w' : World} {row : Option Nat} (h : Blk w g k E xs) (hb : w.grownBy w' row) (hg : some g ≠ row) : Blk w' g k E xs := (hb.block g h.lt hg).trans h
theorem Blk.alloc (h : Blk w g k E xs) (o : Obj) : Blk (w.alloc o) g k E xs := (Below.heap_alloc w o g h.lt).trans h
theorem Blk.cells (h : Blk w g k E xs) : Cells k w (some ⟨g, 0, none⟩) xs := fun _ => ⟨g, 0, rfl, fun j hj => h.cell0 j hj⟩
theorem Blk.sl (h : Blk w g k E xs) (n cap : Nat) (h1 : n ≤ cap) (h2 : cap ≤ 9223372036854775807) : Sl k w (some ⟨g, 0, none⟩) cap (xs.take n) :=
  ⟨by simp; omega, h2, h.cells.take n⟩
theorem Blk.sl_full (h : Blk w g k E xs) (h2 : xs.length ≤ 9223372036854775807) : Sl k w (some ⟨g, 0, none⟩) xs.length xs := ⟨Nat.le_refl _, h2, h.cells⟩
end

/-- A slice in the call's own memory: nil, or at the head of a row from block B on. -/
def New (B : Nat) (k : IntKind) (E : TypeId) (w : World) (v : Value) (xs : List Int) : Prop :=
  (v = .slice none 0 0 ∧ xs = []) ∨
  ∃ g cap cs, v = .slice (some ⟨g, 0, none⟩) xs.length cap ∧ B ≤ g ∧ w.heap[g]? = some (.cells cs E (0, 0)) ∧ xs.length ≤ cap ∧ cap ≤ cs.size ∧ cap ≤ 9223372036854775807 ∧ cs.toList.take xs.length = xs.map (Value.int k)

section
variable {B : Nat} {k : IntKind} {E : TypeId} {w : World} {v : Value} {xs : List Int}
theorem New.nil (B : Nat) (k : IntKind) (E : TypeId) (w : World) : New B k E w (.slice none 0 0) [] := .inl ⟨rfl, rfl⟩
theorem New.of_blk {g : Nat} (h : Blk w g k E xs) (hB : B ≤ g) (n cap : Nat) (h1 : n ≤ cap) (h2 : cap ≤ xs.length) (h3 : cap ≤ 9223372036854775807) : New B k E w (.slice (some ⟨g, 0, none⟩) n cap) (xs.take n) := by
  refine .inr ⟨g, cap, _, ?_, hB, h, ?_, ?_, h3, ?_⟩
  · simp; omega
  · simp; omega
  · simp; omega
  · simp
theorem New.mono {B' : Nat} (h : New B k E w v xs) (hB : B' ≤ B) : New B' k E w v xs := by
  rcases h with h | ⟨g, cap, cs, hv, hg, r⟩
  · exact .inl h
  · exact .inr ⟨g, cap, cs, hv, by omega, r⟩
/-- As a value: its address, its length. -/
theorem New.sl (h : New B k E w v xs) : ∃ a cap, v = .slice a xs.length cap ∧ Sl k w a cap xs := by
  rcases h with ⟨rfl, rfl⟩ | ⟨g, cap, cs, hv, hg, hh, h1, h2, h3, h4⟩
  · exact ⟨none, 0, rfl, .nil _ _ _ _ (by omega)⟩
  · refine ⟨_, cap, hv, h1, h3, fun hp => ⟨g, 0, rfl, fun j hj => ?_⟩⟩
    rw [Nat.zero_add, cell_of_row w g j cs E (0, 0) hh]
    have e : cs.toList[j]? = (cs.toList.take xs.length)[j]? := by rw [List.getElem?_take, if_pos hj]
    rw [← Array.getElem?_toList, e, h4]
    simp [nth, hj]
theorem New.kept {w' : World} {row : Option Nat} (h : New B k E w v xs) (hg : w.grownBy w' row) (hne : v.ownBlock = none ∨ v.ownBlock ≠ row) : New B k E w' v xs := by
  rcases h with h | ⟨g, cap, cs, rfl, hb, hh, r⟩
  · exact .inl h
  · refine .inr ⟨g, cap, cs, rfl, hb, ?_, r⟩
    rw [hg.block g (Array.getElem?_eq_some_iff.1 hh).1 (by simpa [Value.ownBlock] using hne)]
    exact hh
theorem New.below {w' : World} {B' : Nat} (h : New B k E w v xs) (hb : Below B' w w') (hlt : ∀ g, v.ownBlock = some g → g < B') : New B k E w' v xs := by
  rcases h with h | ⟨g, cap, cs, rfl, hbg, hh, r⟩
  · exact .inl h
  · exact .inr ⟨g, cap, cs, rfl, hbg, (hb.block g (hlt g rfl)).trans hh, r⟩
theorem New.lt (h : New B k E w v xs) : ∀ g, v.ownBlock = some g → B ≤ g ∧ g < w.heap.size := by
  intro g hg
  rcases h with ⟨rfl, _⟩ | ⟨g', cap, cs, rfl, hbg, hh, _⟩
  · simp [Value.ownBlock] at hg
  · simp [Value.ownBlock] at hg
    subst hg
    exact ⟨hbg, (Array.getElem?_eq_some_iff.1 hh).1⟩
theorem New.keep {w' : World} (h : New B k E w v xs) (hb : Below w.heap.size w w') : New B k E w' v xs := h.below hb fun g hg => (h.lt g hg).2
theorem New.alloc (h : New B k E w v xs) (o : Obj) : New B k E (w.alloc o) v xs := h.kept (World.grownBy_alloc w o none) (by cases hv : v.ownBlock <;> simp)
end

theorem below_of_grown {w w' : World} {row : Option Nat} {B : Nat} (h : w.grownBy w' row) (hB : B ≤ w.heap.size) (hr : ∀ g, row = some g → B ≤ g) : Below B w w' :=
  (Below.refl B w).grown h hB hr

/-- The row at g has room for cap and begins with these numbers. -/
def Pre (w : World) (g : Nat) (k : IntKind) (E : TypeId) (cap : Nat) (xs : List Int) : Prop :=
  ∃ cs, w.heap[g]? = some (.cells cs E (0, 0)) ∧ xs.length ≤ cap ∧ cap ≤ cs.size ∧ cap ≤ 9223372036854775807 ∧ cs.toList.take xs.length = xs.map (Value.int k)
section
variable {w : World} {g : Nat} {k : IntKind} {E : TypeId} {cap : Nat} {xs : List Int}
theorem New.pre {B : Nat} {v : Value} (h : New B k E w v xs) (hp : 0 < xs.length) : ∃ g cap, v = .slice (some ⟨g, 0, none⟩) xs.length cap ∧ B ≤ g ∧ Pre w g k E cap xs := by
  rcases h with ⟨_, rfl⟩ | ⟨g, cap, cs, hv, hg, hh, h1, h2, h3, h4⟩
  · simp at hp
  · exact ⟨g, cap, hv, hg, cs, hh, h1, h2, h3, h4⟩
theorem Pre.new (h : Pre w g k E cap xs) {B : Nat} (hB : B ≤ g) : New B k E w (.slice (some ⟨g, 0, none⟩) xs.length cap) xs := by
  obtain ⟨cs, hh, h1, h2, h3, h4⟩ := h
  exact .inr ⟨g, cap, cs, rfl, hB, hh, h1, h2, h3, h4⟩
theorem Pre.le (h : Pre w g k E cap xs) : xs.length ≤ cap := by obtain ⟨cs, hh, h1, h2, h3, h4⟩ := h; exact h1
theorem Pre.max (h : Pre w g k E cap xs) : cap ≤ 9223372036854775807 := by obtain ⟨cs, hh, h1, h2, h3, h4⟩ := h; exact h3
theorem Pre.lt (h : Pre w g k E cap xs) : g < w.heap.size := by obtain ⟨cs, hh, _⟩ := h; exact (Array.getElem?_eq_some_iff.1 hh).1
theorem Pre.cell (h : Pre w g k E cap xs) (i : Nat) (hi : i < xs.length) : w.cell? ⟨g, i, none⟩ = some (.int k (nth xs i)) := by
  obtain ⟨cs, hh, h1, h2, h3, h4⟩ := h
  rw [cell_of_row w g i cs E (0, 0) hh]
  have e : cs.toList[i]? = (cs.toList.take xs.length)[i]? := by rw [List.getElem?_take, if_pos hi]
  rw [← Array.getElem?_toList, e, h4]
  simp [nth, hi]
theorem Pre.free (h : Pre w g k E cap xs) (i : Nat) : w.frozen? ⟨g, i, none⟩ = false := by obtain ⟨cs, hh, _⟩ := h; exact frozen_of_row w g i cs E hh
theorem Pre.set (h : Pre w g k E cap xs) (i : Nat) (x : Int) : Pre (w.setCell ⟨g, i, none⟩ (.int k x)) g k E cap (xs.set i x) := by
  obtain ⟨cs, hh, h1, h2, h3, h4⟩ := h
  refine ⟨_, heap_setCell_same w g i cs E (.int k x) hh, by simpa using h1, by simpa using h2, h3, ?_⟩
  rw [Array.toList_setIfInBounds, List.length_set, List.take_set, h4, List.map_set]
theorem Pre.other (h : Pre w g k E cap xs) {b : Nat} (hb : g ≠ b) (i : Nat) (v : Value) : Pre (w.setCell ⟨b, i, none⟩ v) g k E cap xs := by
  obtain ⟨cs, hh, r⟩ := h
  exact ⟨cs, by rw [heap_setCell_other _ _ _ _ hb]; exact hh, r⟩
theorem Pre.below {w' : World} {B : Nat} (h : Pre w g k E cap xs) (hb : Below B w w') (hg : g < B) : Pre w' g k E cap xs := by
  obtain ⟨cs, hh, r⟩ := h
  exact ⟨cs, (hb.block g hg).trans hh, r⟩
theorem Pre.keep {w' : World} (h : Pre w g k E cap xs) (hb : Below w.heap.size w w') : Pre w' g k E cap xs := h.below hb h.lt
theorem Pre.grown {w' : World} {row : Option Nat} (h : Pre w g k E cap xs) (hb : w.grownBy w' row) (hg : some g ≠ row) : Pre w' g k E cap xs := by
  obtain ⟨cs, hh, r⟩ := h
  exact ⟨cs, (hb.block g (Array.getElem?_eq_some_iff.1 hh).1 hg).trans hh, r⟩
theorem Pre.alloc (h : Pre w g k E cap xs) (o : Obj) : Pre (w.alloc o) g k E cap xs := by
  obtain ⟨cs, hh, r⟩ := h
  exact ⟨cs, (Below.heap_alloc w o g (Array.getElem?_eq_some_iff.1 hh).1).trans hh, r⟩
theorem Pre.drew (h : Pre w g k E cap xs) : Pre w.drew g k E cap xs := h
theorem Pre.drewN (h : Pre w g k E cap xs) (n : Nat) : Pre (w.drewN n) g k E cap xs := h
theorem Pre.take (h : Pre w g k E cap xs) (n : Nat) : Pre w g k E cap (xs.take n) := by
  obtain ⟨cs, hh, h1, h2, h3, h4⟩ := h
  refine ⟨cs, hh, by simp; omega, h2, h3, ?_⟩
  rw [List.map_take, ← h4, List.take_take, List.length_take]
theorem Pre.cells (h : Pre w g k E cap xs) : Cells k w (some ⟨g, 0, none⟩) xs := fun _ => ⟨g, 0, rfl, fun j hj => by rw [Nat.zero_add]; exact h.cell j hj⟩
theorem Pre.sl (h : Pre w g k E cap xs) : Sl k w (some ⟨g, 0, none⟩) cap xs := ⟨h.le, h.max, h.cells⟩
end
theorem grownBy_set (w : World) (a : Addr) (v : Value) : w.grownBy (w.setCell a v) (some a.block) :=
  ⟨rfl, rfl, rfl, by simp, fun k _ hk => heap_setCell_other w a k v (fun e => hk (by simp [e]))⟩
theorem grownBy_trans {a b c : World} {row : Option Nat} (h : a.grownBy b row) (h' : b.grownBy c row) : a.grownBy c row :=
  ⟨h'.os.trans h.os, h'.tape.trans h.tape, h'.output.trans h.output, Nat.le_trans h.size h'.size, fun k hk hne => (h'.block k (Nat.lt_of_lt_of_le hk h.size) hne).trans (h.block k hk hne)⟩
theorem grownBy_drew {a b : World} {row : Option Nat} (h : a.grownBy b row) : a.grownBy b.drew row := ⟨h.os, h.tape, h.output, h.size, h.block⟩
theorem grownBy_drewN {a b : World} {row : Option Nat} (h : a.grownBy b row) (n : Nat) : a.grownBy (b.drewN n) row := ⟨h.os, h.tape, h.output, h.size, h.block⟩
theorem below_drewN {B : Nat} {a b : World} (h : Below B a b) (n : Nat) : Below B a (b.drewN n) := ⟨h.os, h.tape, h.output, h.size, h.block⟩
theorem Sl.grown {k : IntKind} {w w' : World} {a : Option Addr} {cap : Nat} {xs : List Int} {row : Option Nat} (h : Sl k w a cap xs) (hg : w.grownBy w' row) (hne : ∀ b off, a = some ⟨b, off, none⟩ → some b ≠ row) : Sl k w' a cap xs :=
  ⟨h.le, h.max, h.cells.same fun b off ha hlt => hg.block b hlt (hne b off ha)⟩

/-! ### make -/
theorem info1 {P : Program} {e : TypeId} {k : IntKind} {bytes : Nat} (h : (P.info? e).map (fun i => (i.zero, i.size, i.bytes)) = some (some (.int k 0), 1, bytes)) :
    ∃ i, P.info? e = some i ∧ i.zero = some (.int k 0) ∧ i.size = 1 ∧ i.bytes = bytes := info_parts h

theorem run_make_blk {P : Program} (w : World) (t e : TypeId) (k : IntKind) (bytes : Nat) (ht : P.underlying t = some (.slice e)) (hi : (P.info? e).map (fun i => (i.zero, i.size, i.bytes)) = some (some (.int k 0), 1, bytes))
    (n : Nat) (hb : bytes * n ≤ 281474976710656) (h63 : n ≤ 9223372036854775807) :
    ∃ w', (Instr.makeSlice t (.int .i64 n) (.int .i64 n)).run P w = .ok (.slice (some ⟨w.heap.size, 0, none⟩) n n) w' ∧ Blk w' w.heap.size k e (List.replicate n 0) ∧ w'.heap.size = w.heap.size + 1 ∧ Below w.heap.size w w' := by
  obtain ⟨i, hi0, hz, hs, hby⟩ := info1 hi
  have hb' : (bytes : Int) * (n : Int) ≤ 281474976710656 := by
    have h : ((bytes * n : Nat) : Int) ≤ 281474976710656 := by omega
    rwa [Int.natCast_mul] at h
  have hr := run_make (P := P) w t e i (.int k 0) ht hi0 hz .i64 .i64 n n (by omega) (by omega) (by rw [hby]; exact hb') (by omega)
  simp only [Int.toNat_natCast, hs, Nat.mul_one] at hr
  refine ⟨_, hr, ?_, by simp, (Below.refl _ _).alloc (Nat.le_refl _) _⟩
  rw [Blk, heap_alloc_new]
  congr 2
  apply Array.toList_inj.1
  rw [show Value.cells (.int k 0) = #[.int k 0] from rfl, toList_madeCells_one]
  simp

theorem wpList_make_blk {P : Program} (w : World) {ops : Array Oper} {rest : List Oper} {o : Oper} {a : Act} {Q : Exit → Act → World → Prop}
    (hg : o.guard = none) (l c : Operand) (t : TypeId) (hop : o.op = Op.makeSlice t l c) (e : TypeId) (k : IntKind) (bytes : Nat) (ht : P.underlying t = some (.slice e))
    (hi : (P.info? e).map (fun i => (i.zero, i.size, i.bytes)) = some (some (.int k 0), 1, bytes))
    (n : Nat) (L C : Int) (hl : a.eval l = .int .i64 L) (hc : a.eval c = .int .i64 C) (hL : L = n) (hC : C = n) (hb : bytes * n ≤ 281474976710656) (h63 : n ≤ 9223372036854775807)
    (hK : ∀ w', Blk w' w.heap.size k e (List.replicate n 0) → w'.heap.size = w.heap.size + 1 → Below w.heap.size w w' → wpList P ops Q rest (a.put o.dst (.slice (some ⟨w.heap.size, 0, none⟩) n n)) w') :
    wpList P ops Q (o :: rest) a w := by
  refine wpList_plain hg fun K hK' => ?_
  obtain ⟨w', hrun, r1, r2, r3⟩ := run_make_blk (P := P) w t e k bytes ht hi n hb h63
  subst hL hC
  unfold Oper.wp
  simp [execOp, hop, hl, hc, hrun, Result.andThen]
  exact hK' _ _ (hK w' r1 r2 r3)

/-! ### append -/
theorem run_append_new {P : Program} (w : World) (B : Nat) (t ty e : TypeId) (k : IntKind) (bytes : Nat) (ht : P.underlying t = some (.slice e)) (hi : (P.info? e).map (fun i => (i.zero, i.size, i.bytes)) = some (some (.int k 0), 1, bytes))
    (v : Value) (xs : List Int) (hv : New B k e w v xs) (a : Option Addr) (c : Nat) (ys : List Int) (hy : Cells k w a ys) (hm : xs.length + ys.length ≤ 9223372036854775807) (hbytes : (xs.length + ys.length) * bytes ≤ 140737488355328) (hB : B ≤ w.heap.size) :
    ∃ v' w', (Builtin.append_ #[t, t] ty #[v, .slice a ys.length c]).run P w = .ok v' w' ∧ New B k e w' v' (xs ++ ys) ∧ w.grownBy w' v.ownBlock ∧ (v'.ownBlock = v.ownBlock ∨ ∃ g, v'.ownBlock = some g ∧ w.heap.size ≤ g) := by
  obtain ⟨i, hi0, hz, hs, hby⟩ := info1 hi
  by_cases h0 : ys.length = 0
  · obtain rfl : ys = [] := List.eq_nil_of_length_eq_zero h0
    refine ⟨v, w, ?_, by simpa using hv, ⟨rfl, rfl, rfl, Nat.le_refl _, fun _ _ _ => rfl⟩, .inl rfl⟩
    have hf : (Builtin.firstCells 1 0 (.slice a 0 c)).run P w = .ok #[] w := by
      cases a with
      | none => simp [Builtin.firstCells]
      | some ad => exact run_firstCells_some w 1 0 ad 0 c [] (by simp) (by simp)
    rcases hv with ⟨rfl, rfl⟩ | ⟨g, cap, cs, rfl, _, _, hnc, _⟩
    · simp [Builtin.append_, run_underlying ht, sizeOf, typeInfo, hi0, hs, Builtin.lenOf, hf]
    · simp [Builtin.append_, run_underlying ht, sizeOf, typeInfo, hi0, hs, Builtin.lenOf, hf, hnc, storeCells]
  · obtain ⟨b, off, rfl, hc⟩ := hy (by omega)
    have hnews : ∀ (j : Nat) (u : Value), (ys.map (Value.int k))[j]? = some u → w.cell? ((⟨b, off, none⟩ : Addr).add j) = some u := by
      intro j u hu
      have hadd : (⟨b, off, none⟩ : Addr).add j = ⟨b, off + j, none⟩ := by unfold Addr.add; split <;> simp_all
      rw [List.getElem?_map, Option.map_eq_some_iff] at hu
      obtain ⟨y, hy1, rfl⟩ := hu
      obtain ⟨hj, hje⟩ := List.getElem?_eq_some_iff.1 hy1
      rw [hadd, hc j hj, nth_get _ _ hj, hje]
    have h1 : ∀ u ∈ ys.map (Value.int k), u.oneCell' = true := by
      intro u hu
      obtain ⟨y, _, rfl⟩ := List.mem_map.1 hu
      rfl
    have grown : ∀ (old : Nat), old < xs.length + ys.length → ∀ (row : Option Nat),
        New B k e (w.drew.alloc (.cells ((xs.map (Value.int k)).toArray ++ (ys.map (Value.int k)).toArray ++ Builtin.zeroCells (Value.cells (.int k 0)) (grownCap w (xs.length + ys.length) old e - (xs.length + ys.length))) e))
          (.slice (some ⟨w.heap.size, 0, none⟩) (xs.length + ys.length) (grownCap w (xs.length + ys.length) old e)) (xs ++ ys) ∧
        w.grownBy (w.drew.alloc (.cells ((xs.map (Value.int k)).toArray ++ (ys.map (Value.int k)).toArray ++ Builtin.zeroCells (Value.cells (.int k 0)) (grownCap w (xs.length + ys.length) old e - (xs.length + ys.length))) e)) row := by
      intro old ho row
      have hge := grownCap_ge w (xs.length + ys.length) old e
      have hcm : grownCap w (xs.length + ys.length) old e ≤ maxLen := grownCap_le_maxLen w (xs.length + ys.length) old e (by unfold maxLen; omega)
      unfold maxLen at hcm
      refine ⟨.inr ⟨w.heap.size, grownCap w (xs.length + ys.length) old e, _, by simp, hB, Go.heap_alloc_new w.drew _, by simp; omega, ?_, by omega, ?_⟩, ⟨rfl, rfl, rfl, by simp, fun j hj _ => Below.heap_alloc w.drew _ j hj⟩⟩
      · simp only [Array.size_append, List.size_toArray, List.length_map, size_zeroCells]
        rw [show (Value.cells (.int k 0)).size = 1 from rfl]
        omega
      · simp only [Array.toList_append, List.append_assoc, List.map_append, List.length_append]
        rw [← List.append_assoc]
        apply List.take_left'
        simp
    rcases hv with ⟨rfl, rfl⟩ | ⟨g, cap, cs, rfl, hbg, hh, hnc, hcs, hcm, htake⟩
    · have hr := run_append_nil (P := P) w t ty e i (.int k 0) ht hi0 hz ⟨b, off, none⟩ ys.length c (ys.map (Value.int k)) (by simp [hs]) hnews (by omega) (by simp at hm; omega) (by rw [hby]; simp at hbytes; omega)
      have hgr := grown 0 (by simp; omega) (Value.ownBlock (.slice none 0 0))
      simp only [List.length_nil, Nat.zero_add, List.map_nil, Array.empty_append, List.nil_append] at hgr ⊢
      exact ⟨_, _, hr, hgr.1, hgr.2, .inr ⟨_, rfl, Nat.le_refl _⟩⟩
    · by_cases hroom : xs.length + ys.length ≤ cap
      · have hr := run_append_room (P := P) w t ty e i ht hi0 g xs.length cap cs hh ⟨b, off, none⟩ ys.length c (ys.map (Value.int k)) (by simp [hs]) hnews h1 hroom (by simp [hs]; omega)
        refine ⟨_, _, hr, .inr ⟨g, cap, _, by simp, hbg, setRow_heap w g cs _ e _ hh, by simpa using hroom, ?_, hcm, ?_⟩, ⟨rfl, rfl, rfl, by simp, fun j _ hk => setRow_other w g j _ (fun ee => hk (by simp [Value.ownBlock, ee]))⟩, .inl rfl⟩
        · simp [hs]; omega
        · simp only [hs, Nat.mul_one, List.length_append, List.map_append]
          rw [htake]
          apply List.take_left'
          simp
      · have holds : ∀ (j : Nat) (u : Value), (xs.map (Value.int k))[j]? = some u → w.cell? ((⟨g, 0, none⟩ : Addr).add j) = some u := by
          intro j u hu
          have hadd : (⟨g, 0, none⟩ : Addr).add j = ⟨g, j, none⟩ := by unfold Addr.add; split <;> simp_all
          rw [hadd, cell_of_row w g j cs e (0, 0) hh]
          rw [← htake, List.getElem?_take] at hu
          split at hu
          · simpa using hu
          · cases hu
        have hr := run_append_grow (P := P) w t ty e i (.int k 0) ht hi0 hz ⟨g, 0, none⟩ xs.length cap (xs.map (Value.int k)) (by simp [hs]) holds ⟨b, off, none⟩ ys.length c (ys.map (Value.int k)) (by simp [hs]) hnews (by omega) (by omega) (growslice_fits (by omega) (by rw [hby]; exact hbytes))
        have hgr := grown cap (by omega) (Value.ownBlock (.slice (some ⟨g, 0, none⟩) xs.length cap))
        exact ⟨_, _, hr, hgr.1, hgr.2, .inr ⟨_, rfl, Nat.le_refl _⟩⟩

theorem wpList_append_new {P : Program} (w : World) {ops : Array Oper} {rest : List Oper} {o : Oper} {a : Act} {Q : Exit → Act → World → Prop} (hgd : o.guard = none) (s x : Operand) (t : TypeId)
    (ho : o.op = .call { callee := .builtin .append, args := #[s, x], argTypes := #[t, t] }) (B : Nat) (e : TypeId) (k : IntKind) (bytes : Nat) (ht : P.underlying t = some (.slice e))
    (hi : (P.info? e).map (fun i => (i.zero, i.size, i.bytes)) = some (some (.int k 0), 1, bytes)) (v : Value) (xs : List Int) (hs : a.eval s = v) (hv : New B k e w v xs)
    (ad : Option Addr) (c n : Nat) (ys : List Int) (hx : a.eval x = .slice ad n c) (hn : n = ys.length) (hy : Cells k w ad ys) (hm : xs.length + ys.length ≤ 9223372036854775807) (hbytes : (xs.length + ys.length) * bytes ≤ 140737488355328) (hB : B ≤ w.heap.size)
    (h : ∀ v' w', New B k e w' v' (xs ++ ys) → w.grownBy w' v.ownBlock → (v'.ownBlock = v.ownBlock ∨ ∃ g, v'.ownBlock = some g ∧ w.heap.size ≤ g) → wpList P ops Q rest (a.put o.dst v') w') : wpList P ops Q (o :: rest) a w := by
  subst hn
  refine wpList_plain hgd fun K hK => ?_
  obtain ⟨v', w', hr, h2, h3, h4⟩ := run_append_new (P := P) w B t o.type e k bytes ht hi v xs hv ad c ys hy hm hbytes hB
  unfold Oper.wp execOp
  simp only [ho, resolve, invoke, builtin, Sem.run_bind, Sem.run_pure, Result.andThen_ok, List.map_toArray, List.map_cons, List.map_nil, hs, hx, hr]
  exact hK _ _ (h v' w' h2 h3 h4)

theorem cells_one (k : IntKind) (w : World) (e : TypeId) (x : Int) (n : Nat) (hn : n = w.heap.size) : Cells k (w.alloc (.cells #[.int k x] e)) (some ⟨n, 0, none⟩) [x] := by
  subst hn
  intro _
  refine ⟨_, 0, rfl, fun j hj => ?_⟩
  have : j = 0 := by simp at hj; omega
  subst this
  simp [nth]

/-- Four bytes, and other few numbers, in one new block. -/
theorem cells_new (k : IntKind) (w : World) (e : TypeId) (xs : List Int) (cs : Array Value) (hcs : cs = (xs.map (Value.int k)).toArray) (n : Nat) (hn : n = w.heap.size) : Blk (w.alloc (.cells cs e)) n k e xs := by
  subst hn hcs
  exact Go.heap_alloc_new w _

end Go.Sg
/- Numbers of base 2^32 as lists of limbs, the lowest first; numbers of bytes, the highest first. Plain arithmetic. -/
set_option linter.unusedVariables false
set_option linter.unusedSimpArgs false
namespace Go.Sg

/-- The base. -/
def R : Nat := 4294967296
theorem R_eq : R = 4294967296 := rfl
theorem R_pos : 0 < R := by decide
theorem Rpow_pos (k : Nat) : 0 < R ^ k := Nat.pow_pos R_pos
theorem Rpow_succ (k : Nat) : R ^ (k + 1) = R * R ^ k := by rw [Nat.pow_succ, Nat.mul_comm]
theorem Rpow_two (k : Nat) : R ^ k = 2 ^ (32 * k) := by rw [R, show (4294967296 : Nat) = 2 ^ 32 from rfl, ← Nat.pow_mul]

/-- A limb as a natural number. -/
def lb (xs : List Int) (i : Nat) : Nat := (nth xs i).toNat

def val : List Int → Nat
  | [] => 0
  | x :: xs => x.toNat + R * val xs

theorem val_nil : val [] = 0 := rfl
theorem val_append (xs ys : List Int) : val (xs ++ ys) = val xs + R ^ xs.length * val ys := by
  induction xs with
  | nil => simp [val]
  | cons x xs ih => simp only [List.cons_append, val, ih, List.length_cons, Rpow_succ, Nat.mul_add, Nat.mul_assoc]; omega
theorem val_one (x : Int) : val [x] = x.toNat := by simp [val]
theorem val_snoc (xs : List Int) (x : Int) : val (xs ++ [x]) = val xs + R ^ xs.length * x.toNat := by rw [val_append, val_one]
theorem val_take_succ (xs : List Int) (k : Nat) (h : k < xs.length) : val (xs.take (k + 1)) = val (xs.take k) + R ^ k * lb xs k := by
  rw [take_succ_nth _ _ h, val_snoc, lb, List.length_take, Nat.min_eq_left (by omega)]
theorem val_split (xs : List Int) (k : Nat) (h : k ≤ xs.length) : val xs = val (xs.take k) + R ^ k * val (xs.drop k) := by
  conv => lhs; rw [← List.take_append_drop k xs]
  rw [val_append, List.length_take, Nat.min_eq_left h]
theorem val_drop (xs : List Int) (k : Nat) (h : k < xs.length) : val (xs.drop k) = lb xs k + R * val (xs.drop (k + 1)) := by
  rw [drop_nth _ _ h, val, lb]
theorem val_zeros (n : Nat) : val (List.replicate n 0) = 0 := by
  induction n with
  | zero => rfl
  | succ n ih => simp [List.replicate_succ, val, ih]
theorem val_zeros_append (n : Nat) (xs : List Int) : val (List.replicate n 0 ++ xs) = R ^ n * val xs := by rw [val_append, val_zeros, List.length_replicate, Nat.zero_add]
theorem lb_lt {xs : List Int} (h : U32 xs) (i : Nat) : lb xs i < R := by have := h i; unfold lb R; omega
theorem lb_cast {xs : List Int} (h : U32 xs) (i : Nat) : ((lb xs i : Nat) : Int) = nth xs i := by have := h i; unfold lb; omega
theorem val_lt {xs : List Int} (h : U32 xs) : val xs < R ^ xs.length := by
  induction xs with
  | nil => simp [val]
  | cons x xs ih =>
    have h1 : U32 xs := .of_mem (by omega) fun y hy => h.mem y (by simp [hy])
    have h2 := h.mem x (by simp)
    have h3 := ih h1
    simp only [val, List.length_cons, Rpow_succ]
    have h4 : x.toNat < R := by unfold R; omega
    have h5 : R * (val xs + 1) ≤ R * R ^ xs.length := Nat.mul_le_mul_left _ h3
    rw [Nat.mul_add] at h5
    omega
theorem val_take_lt {xs : List Int} (h : U32 xs) (k : Nat) (hk : k ≤ xs.length) : val (xs.take k) < R ^ k := by
  have := val_lt (h.take (by omega) k)
  rwa [List.length_take, Nat.min_eq_left hk] at this
theorem val_set (xs : List Int) (i : Nat) (x : Int) (h : i < xs.length) : val (xs.set i x) + R ^ i * lb xs i = val xs + R ^ i * x.toNat := by
  have e1 : (xs.set i x).take i = xs.take i := by rw [List.take_set_of_le (Nat.le_refl _)]
  have e2 : (xs.set i x).drop (i + 1) = xs.drop (i + 1) := by rw [List.drop_set_of_lt (by omega)]
  have e3 := val_split (xs.set i x) i (by simp; omega)
  have e4 := val_drop (xs.set i x) i (by simpa using h)
  have e5 := val_split xs i (by omega)
  have e6 := val_drop xs i h
  have e7 : lb (xs.set i x) i = x.toNat := by rw [lb, nth_set _ _ _ _ h, if_pos rfl]
  rw [e3, e4, e5, e6, e1, e2, e7]
  simp only [Nat.mul_add]
  omega

/-- How many limbs are left without noughts on top. -/
def topz : List Int → Nat
  | [] => 0
  | x :: xs => if topz xs = 0 ∧ x = 0 then 0 else topz xs + 1
theorem topz_le (xs : List Int) : topz xs ≤ xs.length := by
  induction xs with
  | nil => simp [topz]
  | cons x xs ih => simp only [topz, List.length_cons]; split <;> omega
theorem topz_snoc0 (zs : List Int) : topz (zs ++ [0]) = topz zs := by
  induction zs with
  | nil => simp [topz]
  | cons x xs ih => simp [topz, ih]
theorem topz_snoc (zs : List Int) (x : Int) (h : x ≠ 0) : topz (zs ++ [x]) = zs.length + 1 := by
  induction zs with
  | nil => simp [topz, h]
  | cons x xs ih => simp [topz, ih]
theorem topz_down (zs : List Int) (k : Nat) (hk : 0 < k) (hl : k ≤ zs.length) (h : nth zs (k - 1) = 0) : topz (zs.take k) = topz (zs.take (k - 1)) := by
  obtain ⟨j, rfl⟩ : ∃ j, k = j + 1 := ⟨k - 1, by omega⟩
  simp only [Nat.add_sub_cancel] at *
  rw [take_succ_nth _ _ (by omega), h, topz_snoc0]
theorem topz_stop (zs : List Int) (k : Nat) (hk : 0 < k) (hl : k ≤ zs.length) (h : ¬ nth zs (k - 1) = 0) : topz (zs.take k) = k := by
  obtain ⟨j, rfl⟩ : ∃ j, k = j + 1 := ⟨k - 1, by omega⟩
  simp only [Nat.add_sub_cancel] at *
  rw [take_succ_nth _ _ (by omega), topz_snoc _ _ h, List.length_take]
  omega
/-- A number without noughts on top. -/
def norm (xs : List Int) : List Int := xs.take (topz xs)
theorem length_norm (xs : List Int) : (norm xs).length = topz xs := by have := topz_le xs; simp [norm]; omega
theorem topz_zero {xs : List Int} (h : topz xs = 0) : ∀ x ∈ xs, x = 0 := by
  induction xs with
  | nil => simp
  | cons x xs ih =>
    simp only [topz] at h
    split at h
    · rename_i hh
      intro y hy
      rcases List.mem_cons.1 hy with rfl | hy
      · exact hh.2
      · exact ih hh.1 y hy
    · omega
theorem val_of_zero {xs : List Int} (h : ∀ x ∈ xs, x = 0) : val xs = 0 := by
  induction xs with
  | nil => rfl
  | cons x xs ih => rw [val, h x (by simp), ih fun y hy => h y (by simp [hy])]; rfl
theorem val_norm (xs : List Int) : val (norm xs) = val xs := by
  unfold norm
  induction xs with
  | nil => simp [topz]
  | cons x xs ih =>
    simp only [topz]
    split
    · rename_i hh
      rw [List.take_zero, val, val, hh.2, val_of_zero (topz_zero hh.1)]; rfl
    · rw [List.take_succ_cons, val, val, ih]
theorem U32.norm {xs : List Int} (h : U32 xs) : U32 (norm xs) := h.take (by omega) _

/-- No nought on top. -/
def Canon (xs : List Int) : Prop := topz xs = xs.length
theorem topz_take_topz (xs : List Int) : topz (xs.take (topz xs)) = topz xs := by
  induction xs with
  | nil => simp [topz]
  | cons x xs ih =>
    simp only [topz]
    split
    · simp [topz]
    · rename_i hh
      rw [List.take_succ_cons, topz, ih, if_neg hh]
theorem Canon.norm (xs : List Int) : Canon (norm xs) := by rw [Canon, length_norm]; exact topz_take_topz xs
theorem norm_of_canon {xs : List Int} (h : Canon xs) : Sg.norm xs = xs := by rw [Sg.norm, h, List.take_length]
theorem Canon.nil : Canon [] := rfl
theorem Canon.last {xs : List Int} (h : Canon xs) (hp : 0 < xs.length) : nth xs (xs.length - 1) ≠ 0 := by
  intro h0
  have e := topz_down xs xs.length hp (Nat.le_refl _) h0
  rw [List.take_length] at e
  have := topz_le (xs.take (xs.length - 1))
  rw [Canon, e] at h
  simp at this
  omega
theorem Canon.of_last {xs : List Int} (h : 0 < xs.length → nth xs (xs.length - 1) ≠ 0) : Canon xs := by
  by_cases hp : 0 < xs.length
  · have := topz_stop xs xs.length hp (Nat.le_refl _) (h hp)
    rwa [List.take_length] at this
  · obtain rfl : xs = [] := List.eq_nil_of_length_eq_zero (by omega)
    rfl
theorem Canon.ge {xs : List Int} (h : Canon xs) (hu : U32 xs) (hp : 0 < xs.length) : R ^ (xs.length - 1) ≤ val xs := by
  have h1 := h.last hp
  have h2 := hu (xs.length - 1)
  obtain ⟨n, hn⟩ : ∃ n, n = xs.length - 1 := ⟨_, rfl⟩
  have e := val_take_succ xs n (by omega)
  rw [show n + 1 = xs.length by omega, List.take_length] at e
  rw [← hn] at h1 h2 ⊢
  rw [e]
  have h3 : 1 ≤ lb xs n := by unfold lb; omega
  have := Nat.mul_le_mul_left (R ^ n) h3
  omega
theorem Canon.nil_of_zero {xs : List Int} (h : Canon xs) (hu : U32 xs) (h0 : val xs = 0) : xs = [] := by
  by_cases hp : 0 < xs.length
  · have := h.ge hu hp
    have := Rpow_pos (xs.length - 1)
    omega
  · exact List.eq_nil_of_length_eq_zero (by omega)
theorem Canon.len_lt {xs : List Int} (h : Canon xs) (hu : U32 xs) {n : Nat} (hv : val xs < R ^ n) : xs.length ≤ n := by
  by_cases hp : 0 < xs.length
  · have h1 := h.ge hu hp
    have h2 : R ^ (xs.length - 1) < R ^ n := by omega
    have := (Nat.pow_lt_pow_iff_right (a := R) (by decide)).1 h2
    omega
  · omega
theorem val_inj : ∀ {xs ys : List Int}, U32 xs → U32 ys → xs.length = ys.length → val xs = val ys → xs = ys
  | [], [], _, _, _, _ => rfl
  | [], _ :: _, _, _, h, _ => by simp at h
  | _ :: _, [], _, _, h, _ => by simp at h
  | x :: xs, y :: ys, hx, hy, hl, hv => by
    have hx1 : U32 xs := .of_mem (by omega) fun y hy => hx.mem y (by simp [hy])
    have hy1 : U32 ys := .of_mem (by omega) fun z hz => hy.mem z (by simp [hz])
    have hx2 := hx.mem x (by simp)
    have hy2 := hy.mem y (by simp)
    simp only [val, R] at hv
    have h1 : val xs = val ys := by omega
    have h2 : x = y := by omega
    rw [h2, val_inj hx1 hy1 (by simpa using hl) h1]
theorem Canon.ext {xs ys : List Int} (hx : Canon xs) (hy : Canon ys) (ux : U32 xs) (uy : U32 ys) (h : val xs = val ys) : xs = ys := by
  have h1 := hx.len_lt ux (n := ys.length) (by rw [h]; exact val_lt uy)
  have h2 := hy.len_lt uy (n := xs.length) (by rw [← h]; exact val_lt ux)
  exact val_inj ux uy (by omega) h

/-- How many bits. -/
def bl (n : Nat) : Nat := if n = 0 then 0 else Nat.log2 n + 1
theorem bl_zero : bl 0 = 0 := rfl
theorem lt_bl (n : Nat) : n < 2 ^ bl n := by
  unfold bl
  split
  · subst n; decide
  · exact Nat.lt_log2_self
theorem bl_le {n : Nat} (h : n ≠ 0) : 2 ^ (bl n - 1) ≤ n := by
  unfold bl
  rw [if_neg h, Nat.add_sub_cancel]
  exact Nat.log2_self_le h
theorem bl_pos {n : Nat} (h : n ≠ 0) : 0 < bl n := by unfold bl; rw [if_neg h]; omega
theorem bl_unique {n k : Nat} (h1 : 2 ^ k ≤ n) (h2 : n < 2 ^ (k + 1)) : bl n = k + 1 := by
  have h0 : n ≠ 0 := by have := Nat.two_pow_pos k; omega
  have h3 := lt_bl n
  have h4 := bl_le h0
  have h5 := bl_pos h0
  have a : k < bl n := by
    have : 2 ^ k < 2 ^ bl n := by omega
    exact (Nat.pow_lt_pow_iff_right (by decide)).1 this
  have b : bl n - 1 < k + 1 := by
    have : 2 ^ (bl n - 1) < 2 ^ (k + 1) := by omega
    exact (Nat.pow_lt_pow_iff_right (by decide)).1 this
  omega
theorem bl_le_iff (n k : Nat) : bl n ≤ k ↔ n < 2 ^ k := by
  constructor
  · intro h
    exact Nat.lt_of_lt_of_le (lt_bl n) (Nat.pow_le_pow_right (by decide) h)
  · intro h
    by_cases h0 : n = 0
    · subst h0; simp [bl]
    · have h4 := bl_le h0
      have : 2 ^ (bl n - 1) < 2 ^ k := by omega
      have := (Nat.pow_lt_pow_iff_right (a := 2) (by decide)).1 this
      omega
theorem bl_mul_pow (n k : Nat) (h : n ≠ 0) : bl (n * 2 ^ k) = bl n + k := by
  have h1 := bl_le h
  have h2 := lt_bl n
  have h3 := bl_pos h
  have e : bl n + k = (bl n - 1 + k) + 1 := by omega
  rw [e]
  apply bl_unique
  · rw [Nat.pow_add]; exact Nat.mul_le_mul_right _ h1
  · rw [show bl n - 1 + k + 1 = bl n + k by omega, Nat.pow_add]
    exact Nat.mul_lt_mul_of_lt_of_le h2 (Nat.le_refl _) (Nat.two_pow_pos k)
theorem bl_add_low (n k r : Nat) (h : n ≠ 0) (hr : r < 2 ^ k) : bl (r + 2 ^ k * n) = bl n + k := by
  have h1 := bl_le h
  have h2 := lt_bl n
  have h3 := bl_pos h
  have e : bl n + k = (bl n - 1 + k) + 1 := by omega
  rw [e]
  apply bl_unique
  · rw [Nat.pow_add, Nat.mul_comm (2 ^ (bl n - 1))]
    have := Nat.mul_le_mul_left (2 ^ k) h1
    omega
  · rw [show bl n - 1 + k + 1 = k + bl n by omega, Nat.pow_add]
    have : 2 ^ k * (n + 1) ≤ 2 ^ k * 2 ^ bl n := Nat.mul_le_mul_left _ h2
    rw [Nat.mul_add] at this
    omega
/-- Bits of a number out of its top limb. -/
theorem bl_val {xs : List Int} (hu : U32 xs) (h : Canon xs) (hp : 0 < xs.length) : bl (val xs) = 32 * (xs.length - 1) + bl (lb xs (xs.length - 1)) := by
  have h1 := h.last hp
  have h2 := hu (xs.length - 1)
  obtain ⟨n, hn⟩ : ∃ n, n = xs.length - 1 := ⟨_, rfl⟩
  have e := val_take_succ xs n (by omega)
  rw [show n + 1 = xs.length by omega, List.take_length] at e
  rw [← hn] at h1 h2 ⊢
  have h3 : lb xs n ≠ 0 := by unfold lb; omega
  have h4 := val_take_lt hu n (by omega)
  rw [e, Rpow_two]
  rw [Rpow_two] at h4
  rw [bl_add_low _ _ _ h3 h4]
  omega

/-- The number of bytes, the highest first. -/
def bval (xs : List Int) : Nat := xs.foldl (fun n x => n * 256 + x.toNat) 0
theorem bval_nil : bval [] = 0 := rfl
theorem bval_snoc (xs : List Int) (x : Int) : bval (xs ++ [x]) = bval xs * 256 + x.toNat := by simp [bval]
theorem bval_take_succ (xs : List Int) (k : Nat) (h : k < xs.length) : bval (xs.take (k + 1)) = bval (xs.take k) * 256 + lb xs k := by
  rw [take_succ_nth _ _ h, bval_snoc, lb]
theorem bval_foldl (xs : List Int) (n : Nat) : xs.foldl (fun n x => n * 256 + x.toNat) n = n * 256 ^ xs.length + bval xs := by
  induction xs generalizing n with
  | nil => simp [bval]
  | cons x xs ih =>
    have e : bval (x :: xs) = (0 * 256 + x.toNat) * 256 ^ xs.length + bval xs := by rw [bval, List.foldl_cons, ih]
    rw [List.foldl_cons, ih, e, List.length_cons, Nat.pow_succ', Nat.add_mul, ← Nat.mul_assoc, Nat.zero_mul, Nat.zero_add]
    omega
theorem bval_append (xs ys : List Int) : bval (xs ++ ys) = bval xs * 256 ^ ys.length + bval ys := by
  rw [bval, List.foldl_append, bval_foldl]; rfl
theorem bval_lt {xs : List Int} (h : U8 xs) : bval xs < 256 ^ xs.length := by
  suffices ∀ k, k ≤ xs.length → bval (xs.take k) < 256 ^ k by simpa using this xs.length (Nat.le_refl _)
  intro k
  induction k with
  | zero => intro _; simp [bval]
  | succ k ih =>
    intro hk
    have h1 := ih (by omega)
    have h2 := h k
    rw [bval_take_succ _ _ (by omega), Nat.pow_succ]
    have h3 : lb xs k < 256 := by unfold lb; omega
    have := Nat.mul_le_mul_right 256 h1
    omega

/-! ### bytes into limbs, as FromBytes fills them -/
theorem R_pow_256 (q : Nat) : R ^ q = 256 ^ (4 * q) := by rw [R, show (4294967296 : Nat) = 256 ^ 4 from rfl, ← Nat.pow_mul]
def FbInv (bs L : List Int) (i : Nat) : Prop := val L = bval (bs.take i) * 256 ^ (bs.length - i) ∧ ∀ j, 256 ^ (min 4 (bs.length - i - 4 * j)) ∣ lb L j
theorem FbInv.start (bs : List Int) (n : Nat) : FbInv bs (List.replicate n 0) 0 := by
  refine ⟨by rw [val_zeros]; simp [bval], fun j => ?_⟩
  rw [lb, nth_replicate0]; exact Nat.dvd_zero _
theorem FbInv.done {bs L : List Int} (h : FbInv bs L bs.length) : val L = bval bs := by have := h.1; simpa using this
theorem or_join {x c : Nat} {r : Nat} (hr : r < 4) (hx : x < 4294967296) (hd : 256 ^ (r + 1) ∣ x) (hc : c < 256) :
    bits .or .u32 (x : Int) ((c : Int) * 2 ^ (8 * r) % 4294967296) = ((x + c * 256 ^ r : Nat) : Int) ∧ x + c * 256 ^ r < 4294967296 := by
  have key : ∀ (m : Nat) (e : (2 : Int) ^ (8 * r) = (m : Int)) (em : 256 ^ r = m), c * m < 4294967296 → x + c * m < 4294967296 → x ||| c * m = x + c * m →
      bits .or .u32 (x : Int) ((c : Int) * 2 ^ (8 * r) % 4294967296) = ((x + c * 256 ^ r : Nat) : Int) ∧ x + c * 256 ^ r < 4294967296 := by
    intro m e em h1 h2 h3
    rw [e, em, ← Int.natCast_mul, show ((c * m : Nat) : Int) % 4294967296 = ((c * m : Nat) : Int) by omega, u32_or_nat _ _ hx h1, h3]
    exact ⟨rfl, h2⟩
  rcases (show r = 0 ∨ r = 1 ∨ r = 2 ∨ r = 3 by omega) with rfl | rfl | rfl | rfl
  · exact key 1 rfl rfl (by omega) (by omega) (nat_join 8 _ _ (by omega) (by omega))
  · exact key 256 rfl rfl (by omega) (by omega) (nat_join 16 _ _ (by omega) (by omega))
  · exact key 65536 rfl rfl (by omega) (by omega) (nat_join 24 _ _ (by omega) (by omega))
  · exact key 16777216 rfl rfl (by omega) (by omega) (nat_join 32 _ _ (by omega) (by omega))
theorem FbInv.step {bs L : List Int} {i : Nat} (h : FbInv bs L i) (ub : U8 bs) (uL : U32 L) (hi : i < bs.length) (at_ : Nat) (hat : at_ = bs.length - 1 - i) (hq : at_ / 4 < L.length) :
    ∃ y, bits .or .u32 (nth L (at_ / 4)) (nth bs i * 2 ^ (8 * (at_ % 4)) % 4294967296) = y ∧ 0 ≤ y ∧ y ≤ 4294967295 ∧ FbInv bs (L.set (at_ / 4) y) (i + 1) := by
  have hc := ub i
  have hx := lb_lt uL (at_ / 4)
  have hdv := h.2 (at_ / 4)
  rw [show min 4 (bs.length - i - 4 * (at_ / 4)) = at_ % 4 + 1 by omega] at hdv
  have hj := or_join (c := lb bs i) (show at_ % 4 < 4 by omega) hx hdv (by unfold lb; omega)
  rw [lb_cast uL, show ((lb bs i : Nat) : Int) = nth bs i by unfold lb; omega] at hj
  refine ⟨_, rfl, ?_, ?_, ?_, ?_⟩
  · rw [hj.1]; omega
  · rw [hj.1]; omega
  · have e1 := val_set L (at_ / 4) (bits .or .u32 (nth L (at_ / 4)) (nth bs i * 2 ^ (8 * (at_ % 4)) % 4294967296)) hq
    rw [hj.1, Int.toNat_natCast, Nat.mul_add] at e1
    rw [hj.1, bval_take_succ _ _ hi]
    have e2 := h.1
    rw [show bs.length - i = at_ + 1 by omega, Nat.pow_succ] at e2
    rw [show bs.length - (i + 1) = at_ by omega, Nat.add_mul]
    have e3 : R ^ (at_ / 4) * (lb bs i * 256 ^ (at_ % 4)) = lb bs i * 256 ^ at_ := by
      rw [R_pow_256, Nat.mul_comm, Nat.mul_assoc, ← Nat.pow_add, show at_ % 4 + 4 * (at_ / 4) = at_ by omega]
    rw [e3] at e1
    rw [Nat.mul_assoc (bval _), Nat.mul_comm 256, ← e2]
    omega
  · intro j
    rw [hj.1]
    by_cases e : at_ / 4 = j
    · subst e
      rw [lb, nth_set _ _ _ _ hq, if_pos rfl, Int.toNat_natCast, show min 4 (bs.length - (i + 1) - 4 * (at_ / 4)) = at_ % 4 by omega]
      exact Nat.dvd_add (Nat.dvd_trans (Nat.pow_dvd_pow 256 (by omega)) hdv) (Nat.dvd_mul_left _ _)
    · rw [lb, nth_set _ _ _ _ hq, if_neg e]
      exact Nat.dvd_trans (Nat.pow_dvd_pow 256 (by omega)) (h.2 j)
end Go.Sg
/- How great a number can be. -/
set_option linter.unusedVariables false
set_option linter.unusedSimpArgs false
namespace Go.Sg
structure Lim (k n : Nat) : Prop where
  lt : n < R ^ k
theorem Lim.of_list {z : List Int} {k : Nat} (u : U32 z) (h : z.length ≤ k) : Lim k (val z) := ⟨Nat.lt_of_lt_of_le (val_lt u) (Nat.pow_le_pow_right R_pos h)⟩
theorem Lim.len {z : List Int} {k : Nat} (h : Lim k (val z)) (c : Canon z) (u : U32 z) : z.length ≤ k := c.len_lt u h.lt
theorem Lim.le {k m n : Nat} (h : Lim k m) (hn : n ≤ m) : Lim k n := ⟨Nat.lt_of_le_of_lt hn h.lt⟩
theorem Lim.eq {k m n : Nat} (h : Lim k m) (e : n = m) : Lim k n := by rw [e]; exact h
theorem Lim.nil {k : Nat} (h : 0 < k) : Lim k (val []) := ⟨Rpow_pos k⟩
theorem Lim.mono {k l n : Nat} (h : Lim k n) (hl : k ≤ l) : Lim l n := ⟨Nat.lt_of_lt_of_le h.lt (Nat.pow_le_pow_right R_pos hl)⟩
theorem Lim.mul {k l m n : Nat} (h : Lim k m) (h' : Lim l n) : Lim (k + l) (m * n) := ⟨by
  rw [Nat.pow_add]
  rcases Nat.eq_zero_or_pos n with h0 | h0
  · rw [h0, Nat.mul_zero]; exact Nat.mul_pos (Rpow_pos k) (Rpow_pos l)
  · exact Nat.lt_of_lt_of_le (Nat.mul_lt_mul_of_pos_right h.lt h0) (Nat.mul_le_mul_left _ (Nat.le_of_lt h'.lt))⟩
theorem Lim.add {k l m n : Nat} (h : Lim k m) (h' : Lim l n) : Lim (k + l + 1) (m + n) := ⟨by
  have e : R ^ (k + l + 1) = R ^ k * R ^ l * R := by rw [Nat.pow_succ, Nat.pow_add]
  have h1 : R ^ k * 1 ≤ R ^ k * R ^ l := Nat.mul_le_mul_left _ (Rpow_pos l)
  have h2 : 1 * R ^ l ≤ R ^ k * R ^ l := Nat.mul_le_mul_right _ (Rpow_pos k)
  have h3 : R ^ k * R ^ l * 2 ≤ R ^ k * R ^ l * R := Nat.mul_le_mul_left _ (by decide)
  have := h.lt
  have := h'.lt
  omega⟩
end Go.Sg
/- Plain arithmetic of limbs: sums, differences, products, step by step. -/
set_option linter.unusedVariables false
set_option linter.unusedSimpArgs false
namespace Go.Sg

theorem val_take_next (xs : List Int) (k : Nat) : val (xs.take (k + 1)) = val (xs.take k) + R ^ k * lb xs k := by
  by_cases h : k < xs.length
  · exact val_take_succ xs k h
  · rw [List.take_of_length_le (by omega), List.take_of_length_le (by omega), lb, nth_out _ _ (by omega)]; simp
theorem take_set_succ (L : List Int) (i : Nat) (v : Int) (h : i < L.length) : (L.set i v).take (i + 1) = L.take i ++ [v] := by
  rw [take_succ_nth _ _ (by simpa using h), nth_set _ _ _ _ h, if_pos rfl, List.take_set_of_le (Nat.le_refl _)]
theorem val_take_set_succ (L : List Int) (i : Nat) (v : Int) (h : i < L.length) : val ((L.set i v).take (i + 1)) = val (L.take i) + R ^ i * v.toNat := by
  rw [take_set_succ _ _ _ h, val_snoc, List.length_take, Nat.min_eq_left (by omega)]
/-- A limb set inside the first k. -/
theorem val_take_set (L : List Int) (p k : Nat) (v : Int) (hp : p < k) (hk : k ≤ L.length) : val ((L.set p v).take k) + R ^ p * lb L p = val (L.take k) + R ^ p * v.toNat := by
  have e : (L.set p v).take k = (L.take k).set p v := by rw [List.take_set]
  have h := val_set (L.take k) p v (by simp; omega)
  rw [lb, nth_take _ _ _ hp] at h
  rw [e]; exact h

/-- A column of a sum: s is what stands there, its low limb is written, the rest is carried. -/
theorem column (P s : Nat) : P * (s % R) + P * R * (s / R) = P * s := by
  rw [Nat.mul_assoc, ← Nat.mul_add, Nat.mod_add_div]
theorem add_step {A B T P c x y : Nat} (h : T + P * c = A + B) : (T + P * ((c + x + y) % R)) + P * R * ((c + x + y) / R) = (A + P * x) + (B + P * y) := by
  have := column P (c + x + y)
  rw [Nat.mul_add, Nat.mul_add] at this
  omega
theorem Rpow_next (i : Nat) : R ^ (i + 1) = R ^ i * R := Nat.pow_succ ..

/-- The limbs from off on, n of them. -/
def sub (L : List Int) (off n : Nat) : List Int := (L.drop off).take n
theorem sub_len (L : List Int) (off n : Nat) (h : off + n ≤ L.length) : (sub L off n).length = n := by simp [sub]; omega
theorem nth_sub (L : List Int) (off n i : Nat) (h : i < n) : nth (sub L off n) i = nth L (off + i) := by rw [sub, nth_take _ _ _ h, nth_drop]
theorem U32.sub {L : List Int} (h : U32 L) (off n : Nat) : U32 (sub L off n) := (h.drop (by omega) _).take (by omega) _
theorem val_sub_next (L : List Int) (off i : Nat) : val (sub L off (i + 1)) = val (sub L off i) + R ^ i * lb L (off + i) := by
  rw [sub, sub, val_take_next, lb, nth_drop, lb]
theorem sub_set (L : List Int) (off i : Nat) (v : Int) (h : off + i < L.length) : sub (L.set (off + i) v) off i = sub L off i := by
  unfold sub
  apply ext_nth
  · simp
  · intro j hj
    simp at hj
    rw [nth_take _ _ _ (by omega), nth_take _ _ _ (by omega), nth_drop, nth_drop, nth_set _ _ _ _ h, if_neg (by omega)]
theorem sub_zero_off (L : List Int) (n : Nat) : sub L 0 n = L.take n := by simp [sub]
theorem val_sub_lt {L : List Int} (h : U32 L) (off n : Nat) : val (sub L off n) < R ^ n := by
  have h1 := val_lt (h.sub off n)
  have h2 : (sub L off n).length ≤ n := by simp [sub]; omega
  exact Nat.lt_of_lt_of_le h1 (Nat.pow_le_pow_right R_pos h2)

/-- One limb of a difference: d + y + b = x + R b'. -/
theorem sub_step {S T Y P d y b x b' : Nat} (h : T + Y = S + P * b) (hd : d + y + b = x + R * b') : (T + P * d) + (Y + P * y) = (S + P * x) + P * R * b' := by
  have e : P * (d + y + b) = P * (x + R * b') := by rw [hd]
  rw [Nat.mul_add, Nat.mul_add, Nat.mul_add, ← Nat.mul_assoc] at e
  omega

/-- One limb of a product's row. -/
theorem mul_step {T A P Q c x y o Yj Yp : Nat} (h : T + P * c = A + Q * (x * Yj)) (W : Nat) (hW : W + P * o = T + P * ((c + (x * y + o)) % R)) (hQ : P = Q * Yp) (Yp' : Nat) (hY : Yp' = Yj + Yp * y) :
    W + P * R * ((c + (x * y + o)) / R) = A + Q * (x * Yp') := by
  have e := column P (c + (x * y + o))
  rw [Nat.mul_add, Nat.mul_add] at e
  have e2 : Q * (x * Yp') = Q * (x * Yj) + P * (x * y) := by
    rw [hY, hQ, Nat.mul_add, Nat.mul_add]
    congr 1
    rw [Nat.mul_assoc Q, Nat.mul_left_comm x]
  omega
theorem mul_lt_sq {a b : Nat} (ha : a < R) (hb : b < R) : a * b ≤ 18446744065119617025 := by
  unfold R at *
  exact Nat.le_trans (Nat.mul_le_mul (show a ≤ 4294967295 by omega) (show b ≤ 4294967295 by omega)) (by decide)
end Go.Sg
/- Plain arithmetic: shifts by less than a limb, division by one limb, Knuth's division. -/
set_option linter.unusedVariables false
set_option linter.unusedSimpArgs false
namespace Go.Sg

/-! ### a shift up -/
theorem shl_parts {s l c : Nat} (hs : s < 32) (hl : l < R) (hc : c < 2 ^ s) :
    (l * 2 ^ s % R) % 2 ^ s = 0 ∧ l * 2 ^ s % R + c < R ∧ l * 2 ^ s / R < 2 ^ s := by
  have hR : R = 2 ^ s * 2 ^ (32 - s) := by rw [← Nat.pow_add, show s + (32 - s) = 32 by omega]; rfl
  have e : l * 2 ^ s % R = 2 ^ s * (l % 2 ^ (32 - s)) := by rw [hR, Nat.mul_comm l, Nat.mul_mod_mul_left]
  refine ⟨by rw [e]; exact Nat.mul_mod_right _ _, ?_, ?_⟩
  · rw [e]
    have h1 : l % 2 ^ (32 - s) + 1 ≤ 2 ^ (32 - s) := Nat.mod_lt _ (Nat.two_pow_pos _)
    have h2 := Nat.mul_le_mul_left (2 ^ s) h1
    rw [← hR, Nat.mul_add] at h2
    omega
  · rw [Nat.div_lt_iff_lt_mul R_pos, Nat.mul_comm (2 ^ s)]
    exact Nat.mul_lt_mul_of_pos_right hl (Nat.two_pow_pos s)
/-- T + P c = X s goes on by a limb l: what is written is 'l s mod R + c', what is carried 'l s / R'. -/
theorem up_step {T P c X l m : Nat} (h : T + P * c = X * m) : (T + P * (l * m % R + c)) + P * R * (l * m / R) = (X + P * l) * m := by
  have := column P (l * m)
  rw [Nat.add_mul, ← h, Nat.mul_add, Nat.mul_assoc P l]
  omega

/-! ### a shift down -/
theorem down_limb {s a b : Nat} (hs : s < 32) (ha : a < R) : (a + b * R) / 2 ^ s % R = a / 2 ^ s + b % 2 ^ s * 2 ^ (32 - s) := by
  have hR : R = 2 ^ s * 2 ^ (32 - s) := by rw [← Nat.pow_add, show s + (32 - s) = 32 by omega]; rfl
  have h1 : (a + b * R) / 2 ^ s = a / 2 ^ s + b * 2 ^ (32 - s) := by
    rw [hR, ← Nat.mul_assoc, Nat.mul_comm b, Nat.mul_assoc, Nat.add_mul_div_left _ _ (Nat.two_pow_pos s)]
  have h2 : b * 2 ^ (32 - s) = b % 2 ^ s * 2 ^ (32 - s) + R * (b / 2 ^ s) := by
    conv => lhs; rw [← Nat.mod_add_div b (2 ^ s)]
    rw [Nat.add_mul, hR]
    congr 1
    rw [Nat.mul_assoc, Nat.mul_comm (b / 2 ^ s), ← Nat.mul_assoc]
  rw [h1, h2, ← Nat.add_assoc, Nat.add_mul_mod_self_left]
  apply Nat.mod_eq_of_lt
  have h3 : a / 2 ^ s < 2 ^ (32 - s) := by rw [Nat.div_lt_iff_lt_mul (Nat.two_pow_pos s), Nat.mul_comm, ← hR]; exact ha
  have h4 : b % 2 ^ s + 1 ≤ 2 ^ s := Nat.mod_lt _ (Nat.two_pow_pos s)
  have h5 := Nat.mul_le_mul_right (2 ^ (32 - s)) h4
  rw [← hR, Nat.add_mul] at h5
  omega
/-- A number whose lowest limb is a, shifted down. -/
theorem down_step {s a b b0 : Nat} (hs : s < 32) (ha : a < R) (hb : b % 2 ^ s = b0 % 2 ^ s) : (a + R * b) / 2 ^ s = (a + b0 * R) / 2 ^ s % R + R * (b / 2 ^ s) := by
  have hR : R = 2 ^ s * 2 ^ (32 - s) := by rw [← Nat.pow_add, show s + (32 - s) = 32 by omega]; rfl
  rw [down_limb hs ha, ← hb]
  have h1 : (a + R * b) / 2 ^ s = a / 2 ^ s + b * 2 ^ (32 - s) := by
    rw [hR, Nat.mul_assoc, Nat.add_mul_div_left _ _ (Nat.two_pow_pos s), Nat.mul_comm b]
  have h2 : b * 2 ^ (32 - s) = b % 2 ^ s * 2 ^ (32 - s) + R * (b / 2 ^ s) := by
    conv => lhs; rw [← Nat.mod_add_div b (2 ^ s)]
    rw [Nat.add_mul, hR]
    congr 1
    rw [Nat.mul_assoc, Nat.mul_comm (b / 2 ^ s), ← Nat.mul_assoc]
  rw [h1, h2]
  omega
theorem val_drop_mod (L : List Int) (i s : Nat) (hs : s < 32) : val (L.drop i) % 2 ^ s = lb L i % 2 ^ s := by
  by_cases h : i < L.length
  · have hR : R = 2 ^ s * 2 ^ (32 - s) := by rw [← Nat.pow_add, show s + (32 - s) = 32 by omega]; rfl
    rw [val_drop L i h, hR, Nat.mul_assoc, Nat.add_mul_mod_self_left]
  · rw [List.drop_of_length_le (by omega), lb, nth_out _ _ (by omega)]; rfl

/-! ### Knuth's estimate -/
/-- The digit that is sought. -/
theorem digit_le_top {W V v1 P top : Nat} (hV : v1 * P ≤ V) (hW : W < (top + 1) * P) (q : Nat) (hq : q * V ≤ W) : q * v1 ≤ top := by
  have h1 : q * v1 * P ≤ W := by rw [Nat.mul_assoc]; exact Nat.le_trans (Nat.mul_le_mul_left _ hV) hq
  have h2 : q * v1 * P < (top + 1) * P := Nat.lt_of_le_of_lt h1 hW
  have := Nat.lt_of_mul_lt_mul_right h2
  omega

theorem est_pair {q V U v1 v2 T u3 P : Nat} (hq : q * V ≤ U) (hV : (v1 * R + v2) * P ≤ V) (hU : U < (T * R + u3 + 1) * P) : q * (v1 * R + v2) ≤ T * R + u3 := digit_le_top hV hU q hq
theorem est_one {q v1 v2 T u3 : Nat} (h : q * (v1 * R + v2) ≤ T * R + u3) (hu : u3 < R) : q * v1 ≤ T := by
  have h1 : q * v1 * R ≤ T * R + u3 := by
    refine Nat.le_trans ?_ h
    rw [Nat.mul_add, Nat.mul_assoc]; omega
  have h2 : q * v1 * R < (T + 1) * R := by rw [Nat.add_mul]; omega
  have := Nat.lt_of_mul_lt_mul_right h2
  omega
theorem est_down {q d v1 v2 T r u3 : Nat} (h : q * (v1 * R + v2) ≤ T * R + u3) (ht : d * v1 + r = T) (hq : q ≤ d) (hgt : r * R + u3 < d * v2) : q ≤ d - 1 := by
  rcases Nat.lt_or_ge q d with hlt | hge
  · omega
  · obtain rfl : q = d := by omega
    rw [← ht, Nat.mul_add, Nat.add_mul, ← Nat.mul_assoc] at h
    omega
theorem val_two (V : List Int) (k : Nat) (h : V.length = k + 2) : val V = val (V.take k) + R ^ k * (lb V (k + 1) * R + lb V k) := by
  have e1 := val_split V k (by omega)
  have e2 := val_drop V k (by omega)
  have e3 := val_drop V (k + 1) (by omega)
  have e4 : val (V.drop (k + 1 + 1)) = 0 := by rw [List.drop_of_length_le (by omega)]; rfl
  rw [e1, e2, e3, e4, Nat.mul_zero, Nat.add_zero, Nat.mul_comm R, Nat.add_comm (lb V k)]
theorem val_three (U : List Int) (k : Nat) (h : U.length = k + 3) : val U = val (U.take k) + R ^ k * ((lb U (k + 2) * R + lb U (k + 1)) * R + lb U k) := by
  have e1 := val_split U k (by omega)
  have e2 := val_drop U k (by omega)
  have e3 := val_drop U (k + 1) (by omega)
  have e4 := val_drop U (k + 2) (by omega)
  have e5 : val (U.drop (k + 2 + 1)) = 0 := by rw [List.drop_of_length_le (by omega)]; rfl
  rw [e1, e2, e3, e4, e5, Nat.mul_zero, Nat.add_zero, Nat.mul_comm R, Nat.mul_comm R, Nat.add_comm (lb U (k + 1)), Nat.add_comm (lb U k), Nat.add_zero]
end Go.Sg
/- The long division's sums. -/
set_option linter.unusedVariables false
set_option linter.unusedSimpArgs false
namespace Go.Sg

theorem val_parts (L : List Int) (off n : Nat) (h : off + n ≤ L.length) : val L = val (L.take off) + R ^ off * (val (sub L off n) + R ^ n * val (L.drop (off + n))) := by
  rw [val_split L off (by omega), val_split (L.drop off) n (by simp; omega), List.drop_drop, sub]

theorem val_window {U : List Int} {off n : Nat} (h : off + n ≤ U.length) (hlt : val U < R ^ (off + n)) : val U = val (U.take off) + R ^ off * val (sub U off n) := by
  have e := val_parts U off n h
  have h0 : val (U.drop (off + n)) = 0 := by
    rcases Nat.eq_zero_or_pos (val (U.drop (off + n))) with h | h
    · exact h
    · exfalso
      have h1 : R ^ off * (R ^ n * 1) ≤ R ^ off * (val (sub U off n) + R ^ n * val (U.drop (off + n))) := Nat.mul_le_mul_left _ (Nat.le_trans (Nat.mul_le_mul_left _ h) (Nat.le_add_left _ _))
      rw [Nat.mul_one, ← Nat.pow_add] at h1
      omega
  rw [h0, Nat.mul_zero, Nat.add_zero] at e
  exact e

def LongU (N v j : Nat) (U Q : List Int) : Prop := N = v * (R ^ j * val (Q.drop j)) + val U ∧ val U < v * R ^ j

theorem LongU.window {N v j n : Nat} {U Q : List Int} (h : LongU N v (j + 1) U Q) (hv : v < R ^ n) (hl : j + (n + 1) ≤ U.length) :
    val U = val (U.take j) + R ^ j * val (sub U j (n + 1)) ∧ val (sub U j (n + 1)) < v * R := by
  have h1 : val U < R ^ (j + (n + 1)) := by
    refine Nat.lt_of_lt_of_le h.2 ?_
    have : v * R ^ (j + 1) ≤ R ^ n * R ^ (j + 1) := Nat.mul_le_mul_right _ (Nat.le_of_lt hv)
    rw [← Nat.pow_add] at this
    rwa [show j + (n + 1) = n + (j + 1) by omega]
  have e := val_window hl h1
  refine ⟨e, ?_⟩
  have h2 := h.2
  rw [e] at h2
  have h3 : R ^ j * val (sub U j (n + 1)) < R ^ j * (v * R) := by
    have e3 : R ^ j * (v * R) = v * R ^ (j + 1) := by rw [Nat.pow_succ, Nat.mul_left_comm]
    rw [e3]
    omega
  exact Nat.lt_of_mul_lt_mul_left h3

theorem drop_set_here (L : List Int) (i : Nat) (v : Int) (h : i < L.length) : (L.set i v).drop i = v :: L.drop (i + 1) := by
  rw [drop_nth _ _ (by simpa using h), nth_set _ _ _ _ h, if_pos rfl, List.drop_set_of_lt (by omega)]

theorem LongU.step {N v j n d b : Nat} {U Q U' P : List Int} (h : LongU N v (j + 1) U Q) (hv : v < R ^ n) (hl : j + (n + 1) ≤ U.length) (uU : U32 U) (uU' : U32 U') (hlen : U'.length = U.length)
    (hout : ∀ i, i < j ∨ j + (n + 1) ≤ i → nth U' i = nth U i) (hb : b ≤ 1) (hval : val (sub U' j (n + 1)) + val P = val (sub U j (n + 1)) + R ^ (n + 1) * b) (hP : val P = d * v)
    (hle : d * v ≤ val (sub U j (n + 1))) (hlt : val (sub U j (n + 1)) < (d + 1) * v) (hj : j < Q.length) : LongU N v j U' (Q.set j (d : Int)) := by
  obtain ⟨e, hW⟩ := h.window hv hl
  have hsub := val_sub_lt uU' j (n + 1)
  have hb0 : b = 0 := by
    rcases (show b = 0 ∨ b = 1 by omega) with h | h
    · exact h
    · rw [h] at hval; omega
  rw [hb0, hP, Nat.mul_zero] at hval
  replace hval : val (sub U' j (n + 1)) + d * v = val (sub U j (n + 1)) := hval
  have t1 : U'.take j = U.take j := ext_nth _ _ (by simp; omega) fun i hi => by
    have hij : i < j := by simp at hi; omega
    rw [nth_take _ _ _ hij, nth_take _ _ _ hij]
    exact hout i (by omega)
  have t2 : U'.drop (j + (n + 1)) = U.drop (j + (n + 1)) := ext_nth _ _ (by simp; omega) fun i hi => by
    rw [nth_drop, nth_drop]
    exact hout _ (by omega)
  have p1 := val_parts U j (n + 1) hl
  have p2 := val_parts U' j (n + 1) (by omega)
  rw [t1, t2] at p2
  have key : val U = val U' + R ^ j * (d * v) := by
    rw [p1, p2, ← hval, Nat.add_assoc (val (U.take j)), ← Nat.mul_add, Nat.add_right_comm]
  have hlow := val_take_lt uU j (by omega)
  refine ⟨?_, ?_⟩
  · rw [h.1, drop_set_here Q j _ hj, key]
    show _ = v * (R ^ j * ((d : Int).toNat + R * val (Q.drop (j + 1)))) + val U'
    rw [Int.toNat_natCast, Nat.mul_add, Nat.mul_add, Nat.pow_succ]
    have e1 : v * (R ^ j * d) = R ^ j * (d * v) := by rw [Nat.mul_left_comm, Nat.mul_comm v d]
    have e2 : v * (R ^ j * R * val (Q.drop (j + 1))) = v * (R ^ j * (R * val (Q.drop (j + 1)))) := by rw [Nat.mul_assoc (R ^ j)]
    rw [e1, e2]
    omega
  · have h1 : val (sub U' j (n + 1)) + 1 ≤ v := by rw [Nat.add_mul, Nat.one_mul] at hlt; omega
    have h2 : val U' = val (U.take j) + R ^ j * val (sub U' j (n + 1)) := by
      rw [key, ← hval, Nat.mul_add] at e
      omega
    have h3 := Nat.mul_le_mul_left (R ^ j) h1
    rw [Nat.mul_add, Nat.mul_one] at h3
    rw [h2, Nat.mul_comm v]
    omega

theorem LongU.done {N v : Nat} {U Q : List Int} (h : LongU N v 0 U Q) : N = v * val Q + val U ∧ val U < v := by
  have h1 := h.1
  have h2 := h.2
  rw [Nat.pow_zero, Nat.one_mul, List.drop_zero] at h1
  rw [Nat.pow_zero, Nat.mul_one] at h2
  exact ⟨h1, h2⟩

theorem long_fin {x y q u p : Nat} (hp : 0 < p) (h : x * p = (y * p) * q + u) (hu : u < y * p) : q = x / y ∧ u / p = x % y := by
  have h1 : (y * p) * q = (y * q) * p := by rw [Nat.mul_right_comm]
  have h2 : y * q ≤ x := by
    apply Nat.le_of_mul_le_mul_right _ hp
    omega
  obtain ⟨r, rfl⟩ : ∃ r, x = y * q + r := ⟨x - y * q, by omega⟩
  have h3 : u = r * p := by rw [Nat.add_mul] at h; omega
  have hr : r < y := by rw [h3] at hu; exact Nat.lt_of_mul_lt_mul_right hu
  refine ⟨?_, ?_⟩
  · rw [Nat.mul_add_div (by omega), Nat.div_eq_of_lt hr, Nat.add_zero]
  · rw [h3, Nat.mul_div_cancel _ hp, Nat.mul_add_mod, Nat.mod_eq_of_lt hr]

theorem no_carry {a c n N : Nat} (h : a + R ^ n * c = N) (hN : N < R ^ n) : a = N := by
  rcases Nat.eq_zero_or_pos c with h0 | h0
  · rw [h0] at h; omega
  · have := Nat.mul_le_mul_left (R ^ n) h0
    omega

/-- The divisor moved up: its top bit stands at the top. -/
theorem top_norm {Y : List Int} {k : Nat} (uy : U32 Y) (hl : Y.length = k + 2) (h0 : lb Y (k + 1) ≠ 0) : val Y * 2 ^ (32 - bl (lb Y (k + 1))) < R ^ (k + 2) ∧ R ^ (k + 1) ≤ val Y := by
  have e := val_take_next Y (k + 1)
  rw [List.take_of_length_le (by omega)] at e
  have t := val_take_lt uy (k + 1) (by omega)
  have hb := lb_lt uy (k + 1)
  generalize lb Y (k + 1) = y1 at *
  have h32 : bl y1 ≤ 32 := (bl_le_iff _ _).2 (by unfold R at hb; omega)
  have hlt := lt_bl y1
  refine ⟨?_, ?_⟩
  · have h1 : val Y < R ^ (k + 1) * (y1 + 1) := by rw [Nat.mul_add]; omega
    have h2 : R ^ (k + 1) * (y1 + 1) ≤ R ^ (k + 1) * 2 ^ bl y1 := Nat.mul_le_mul_left _ hlt
    have h3 : val Y * 2 ^ (32 - bl y1) < R ^ (k + 1) * 2 ^ bl y1 * 2 ^ (32 - bl y1) := Nat.mul_lt_mul_of_pos_right (by omega) (Nat.two_pow_pos _)
    have h4 : R ^ (k + 1) * 2 ^ bl y1 * 2 ^ (32 - bl y1) = R ^ (k + 2) := by
      rw [Nat.mul_assoc, ← Nat.pow_add, show bl y1 + (32 - bl y1) = 32 by omega, Nat.pow_succ R (k + 1)]
      rfl
    omega
  · have := Nat.mul_le_mul_left (R ^ (k + 1)) (Nat.one_le_iff_ne_zero.2 h0)
    omega

theorem top_ne {V : List Int} {k : Nat} (uv : U32 V) (hl : V.length = k + 2) (h : R ^ (k + 1) ≤ val V) : lb V (k + 1) ≠ 0 := by
  intro h0
  have e := val_take_next V (k + 1)
  rw [List.take_of_length_le (by omega), h0] at e
  have t := val_take_lt uv (k + 1) (by omega)
  omega

theorem LongU.start {y x s m k : Nat} {U Q : List Int} (hx : x < R ^ m) (hy : R ^ (k + 1) ≤ y) (hkm : k + 2 ≤ m) (hU : val U = x * 2 ^ s) (j : Nat) (hj : j = m - (k + 2) + 1) (hQ : Q.drop j = []) : LongU (x * 2 ^ s) (y * 2 ^ s) j U Q := by
  refine ⟨by rw [hQ, hU]; simp [val], ?_⟩
  rw [hU, Nat.mul_right_comm]
  refine Nat.mul_lt_mul_of_pos_right (Nat.lt_of_lt_of_le hx ?_) (Nat.two_pow_pos s)
  have : R ^ (k + 1) * R ^ j ≤ y * R ^ j := Nat.mul_le_mul_right _ hy
  rw [← Nat.pow_add, show k + 1 + j = m by omega] at this
  exact this
end Go.Sg
/- Numbers modulo m: sums, halves, powers, and what Euclid and the halving keep. No program in sight. -/
set_option linter.unusedVariables false
set_option linter.unusedSimpArgs false
namespace Go.Sg
/-- a and b differ by a multiple of m. -/
def Cg (m : Nat) (a b : Int) : Prop := ∃ k : Int, a - b = k * (m : Int)
theorem Cg.refl (m : Nat) (a : Int) : Cg m a a := ⟨0, by omega⟩
theorem Cg.symm {m : Nat} {a b : Int} (h : Cg m a b) : Cg m b a := by obtain ⟨k, h⟩ := h; exact ⟨-k, by grind⟩
theorem Cg.trans {m : Nat} {a b c : Int} (h : Cg m a b) (h' : Cg m b c) : Cg m a c := by obtain ⟨k, h⟩ := h; obtain ⟨l, h'⟩ := h'; exact ⟨k + l, by grind⟩
theorem Cg.add {m : Nat} {a b c d : Int} (h : Cg m a b) (h' : Cg m c d) : Cg m (a + c) (b + d) := by obtain ⟨k, h⟩ := h; obtain ⟨l, h'⟩ := h'; exact ⟨k + l, by grind⟩
theorem Cg.sub {m : Nat} {a b c d : Int} (h : Cg m a b) (h' : Cg m c d) : Cg m (a - c) (b - d) := by obtain ⟨k, h⟩ := h; obtain ⟨l, h'⟩ := h'; exact ⟨k - l, by grind⟩
theorem Cg.mul {m : Nat} {a b c d : Int} (h : Cg m a b) (h' : Cg m c d) : Cg m (a * c) (b * d) := by obtain ⟨k, h⟩ := h; obtain ⟨l, h'⟩ := h'; exact ⟨k * c + b * l, by grind⟩
theorem Cg.mod (m n : Nat) : Cg m ((n % m : Nat) : Int) n := by
  refine ⟨-((n / m : Nat) : Int), ?_⟩
  have h := Nat.div_add_mod n m
  have h2 : ((m * (n / m) + n % m : Nat) : Int) = n := by rw [h]
  rw [Int.natCast_add, Int.natCast_mul] at h2
  grind
theorem Cg.self (m : Nat) : Cg m m 0 := ⟨1, by grind⟩
theorem Cg.eq {m a b : Nat} (h : Cg m a b) : a % m = b % m := by
  obtain ⟨k, h⟩ := h
  have : (a : Int) % m = (b : Int) % m := by
    have e : (a : Int) = b + k * m := by omega
    rw [e, Int.add_mul_emod_self_right]
  omega
theorem Cg.of_eq {m a b : Nat} (h : a % m = b % m) : Cg m a b := ((Cg.mod m a).symm.trans (by rw [h]; exact Cg.refl _ _)).trans (Cg.mod m b)
theorem Cg.eq_lt {m a b : Nat} (h : Cg m a b) (hb : b < m) : a % m = b := by rw [h.eq, Nat.mod_eq_of_lt hb]

/-- The difference of two numbers below m, modulo m. -/
def subM (a b m : Nat) : Nat := if b ≤ a then a - b else a + m - b
theorem subM_lt {a b m : Nat} (ha : a < m) (hb : b < m) : subM a b m < m := by unfold subM; split <;> omega
theorem subM_cg {a b m : Nat} (hb : b < m) : Cg m (subM a b m) ((a : Int) - b) := by
  unfold subM
  split
  · exact ⟨0, by omega⟩
  · exact ⟨1, by omega⟩
/-- Half of x, or of x and m. -/
def halfM (x m : Nat) : Nat := if x % 2 = 1 then (x + m) / 2 else x / 2
theorem halfM_lt {x m : Nat} (h : x < m) : halfM x m < m := by unfold halfM; split <;> omega
theorem halfM_cg {x m : Nat} {a u : Int} (hm : m % 2 = 1) (h : Cg m (x * a) (2 * u)) : Cg m ((halfM x m : Nat) * a) u := by
  obtain ⟨k, hk⟩ := h
  obtain ⟨j, hj⟩ : ∃ j : Nat, m = 2 * j + 1 := ⟨m / 2, by omega⟩
  have key : ∀ (y t : Int), 2 * y * a = 2 * u + t * m → ∃ s, y * a - u = s * m := by
    intro y t h1
    have h2 : t = 2 * (y * a - u - t * j) := by
      have : (m : Int) = 2 * j + 1 := by omega
      rw [this] at h1
      grind
    exact ⟨y * a - u - t * j, by grind⟩
  unfold halfM
  split
  · rename_i h1
    have e : (((x + m) / 2 : Nat) : Int) * 2 = x + m := by omega
    exact key _ (k + a) (by grind)
  · have e : ((x / 2 : Nat) : Int) * 2 = x := by omega
    exact key _ k (by grind)

/-! ### Euclid, by dividing -/
structure EvInv (a m r s x y : Nat) : Prop where
  xm : x < m
  ym : y < m
  xr : Cg m (x * a) r
  ys : Cg m (y * a) s
  g : Nat.gcd r s = Nat.gcd m a
  r0 : 0 < r
  rm : r ≤ m
  sm : s < m
theorem EvInv.start {a m : Nat} (hm : 1 < m) (ha : a < m) : EvInv a m m a 0 1 :=
  ⟨by omega, hm, by simpa using (Cg.self m).symm, by simpa using Cg.refl m a, rfl, by omega, by omega, ha⟩
theorem EvInv.step {a m r s x y : Nat} (h : EvInv a m r s x y) (hs : 0 < s) : EvInv a m s (r % s) y (subM x (r / s * y % m) m) := by
  have hm : 0 < m := by have := h.xm; omega
  have hl := Nat.mod_lt (r / s * y) hm
  refine ⟨h.ym, subM_lt h.xm hl, h.ys, ?_, ?_, hs, by have := h.sm; omega, Nat.lt_trans (Nat.mod_lt _ hs) h.sm⟩
  · have h1 := (subM_cg (a := x) hl).mul (Cg.refl m (a : Int))
    have h2 := ((Cg.mod m (r / s * y)).mul (Cg.refl m (a : Int)))
    have h3 := (Cg.refl m ((r / s : Nat) : Int)).mul h.ys
    have h4 : Cg m (((r / s * y % m : Nat) : Int) * a) (((r / s : Nat) : Int) * s) := by
      refine h2.trans ?_
      rw [Int.natCast_mul, Int.mul_assoc]
      exact h3
    have e : ((r % s : Nat) : Int) = r - ((r / s : Nat) : Int) * s := by
      have := Nat.div_add_mod r s
      have h2 : ((s * (r / s) + r % s : Nat) : Int) = r := by rw [this]
      rw [Int.natCast_add, Int.natCast_mul] at h2
      grind
    rw [e]
    refine h1.trans ?_
    rw [Int.sub_mul]
    exact h.xr.sub h4
  · rw [← h.g, Nat.gcd_comm s, ← Nat.gcd_rec, Nat.gcd_comm]
theorem EvInv.done {a m r x y : Nat} (h : EvInv a m r 0 x y) : r = Nat.gcd a m ∧ Cg m (x * a) r := by
  refine ⟨?_, h.xr⟩
  have := h.g
  rw [Nat.gcd_zero_right] at this
  rw [this, Nat.gcd_comm]

/-! ### by halving and subtracting, for an odd m -/
structure OdInv (a m u v p q : Nat) : Prop where
  pm : p < m
  qm : q < m
  pu : Cg m (p * a) u
  qv : Cg m (q * a) v
  g : Nat.gcd u v = Nat.gcd a m
  v0 : 0 < v
  odd : u % 2 = 1 ∨ v % 2 = 1
  um : u ≤ m
  vm : v ≤ m
theorem OdInv.start {a m : Nat} (hm : 1 < m) (ho : m % 2 = 1) (ha : a < m) : OdInv a m a m 1 0 :=
  ⟨hm, by omega, by simpa using Cg.refl m a, by simpa using (Cg.self m).symm, rfl, by omega, .inr ho, by omega, Nat.le_refl _⟩
theorem gcd_half {u v : Nat} (hu : u % 2 = 0) (hv : v % 2 = 1) : Nat.gcd (u / 2) v = Nat.gcd u v := by
  have hc : Nat.Coprime 2 v := by
    unfold Nat.Coprime
    rw [Nat.gcd_rec, hv]
    rfl
  have e : u = 2 * (u / 2) := by omega
  conv => rhs; rw [e]
  exact (hc.gcd_mul_left_cancel (u / 2)).symm
theorem OdInv.halfU {a m u v p q : Nat} (h : OdInv a m u v p q) (ho : m % 2 = 1) (hu : u % 2 = 0) : OdInv a m (u / 2) v (halfM p m) q := by
  have hv : v % 2 = 1 := by have := h.odd; omega
  refine ⟨halfM_lt h.pm, h.qm, halfM_cg ho ?_, h.qv, by rw [gcd_half hu hv]; exact h.g, h.v0, .inr hv, by have := h.um; omega, h.vm⟩
  have e : (2 : Int) * ((u / 2 : Nat) : Int) = u := by omega
  rw [e]; exact h.pu
theorem OdInv.halfV {a m u v p q : Nat} (h : OdInv a m u v p q) (ho : m % 2 = 1) (hv : v % 2 = 0) : OdInv a m u (v / 2) p (halfM q m) := by
  have hu : u % 2 = 1 := by have := h.odd; omega
  refine ⟨h.pm, halfM_lt h.qm, h.pu, halfM_cg ho ?_, ?_, by have := h.v0; omega, .inl hu, h.um, by have := h.vm; omega⟩
  · have e : (2 : Int) * ((v / 2 : Nat) : Int) = v := by omega
    rw [e]; exact h.qv
  · rw [Nat.gcd_comm, gcd_half hv hu, Nat.gcd_comm]; exact h.g
theorem OdInv.subU {a m u v p q : Nat} (h : OdInv a m u v p q) (hu : u % 2 = 1) (hv : v % 2 = 1) (hle : v ≤ u) : OdInv a m (u - v) v (subM p q m) q := by
  refine ⟨subM_lt h.pm h.qm, h.qm, ?_, h.qv, ?_, h.v0, .inr hv, by have := h.um; omega, h.vm⟩
  · have h1 := (subM_cg (a := p) h.qm).mul (Cg.refl m (a : Int))
    refine h1.trans ?_
    rw [Int.sub_mul, Int.natCast_sub hle]
    exact h.pu.sub h.qv
  · rw [Nat.gcd_sub_self_left hle]; exact h.g
theorem OdInv.subV {a m u v p q : Nat} (h : OdInv a m u v p q) (hu : u % 2 = 1) (hv : v % 2 = 1) (hlt : u < v) : OdInv a m u (v - u) p (subM q p m) := by
  refine ⟨h.pm, subM_lt h.qm h.pm, h.pu, ?_, ?_, by omega, .inl hu, h.um, by have := h.vm; omega⟩
  · have h1 := (subM_cg (a := q) h.pm).mul (Cg.refl m (a : Int))
    refine h1.trans ?_
    rw [Int.sub_mul, Int.natCast_sub (Nat.le_of_lt hlt)]
    exact h.qv.sub h.pu
  · rw [Nat.gcd_sub_self_right (Nat.le_of_lt hlt)]; exact h.g
theorem OdInv.done {a m v p q : Nat} (h : OdInv a m 0 v p q) : v = Nat.gcd a m ∧ Cg m (q * a) v := by
  refine ⟨?_, h.qv⟩
  have := h.g
  rwa [Nat.gcd_zero_left] at this

/-! ### what is told of an inverse -/
theorem inv_of {a m x g : Nat} (hm : 1 < m) (h : Cg m (x * a) g) (hg : g = 1) : x % m * (a % m) % m = 1 := by
  subst hg
  have h2 := ((Cg.mod m x).mul (Cg.mod m a)).trans h
  rw [← Int.natCast_mul] at h2
  exact Cg.eq_lt (b := 1) h2 hm
theorem gcd_mod (a m : Nat) : Nat.gcd (a % m) m = Nat.gcd a m := by rw [← Nat.gcd_rec, Nat.gcd_comm]

/-! ### powers, bit by bit -/
theorem div_two_pow (e i : Nat) : e / 2 ^ i = 2 * (e / 2 ^ (i + 1)) + e / 2 ^ i % 2 := by
  have h : e / 2 ^ (i + 1) = e / 2 ^ i / 2 := by rw [Nat.pow_succ, Nat.div_div_eq_div_mul]
  rw [h]; omega
theorem pow_bit0 (A e i m : Nat) (h : e / 2 ^ i % 2 = 0) : A ^ (e / 2 ^ (i + 1)) % m * (A ^ (e / 2 ^ (i + 1)) % m) % m = A ^ (e / 2 ^ i) % m := by
  have e1 := div_two_pow e i
  rw [h, Nat.add_zero] at e1
  rw [e1, ← Nat.mul_mod, ← Nat.pow_add, Nat.two_mul]
theorem pow_bit1 (A e i m : Nat) (h : e / 2 ^ i % 2 = 1) : A ^ (e / 2 ^ (i + 1)) % m * (A ^ (e / 2 ^ (i + 1)) % m) % m * A % m = A ^ (e / 2 ^ i) % m := by
  have e1 := div_two_pow e i
  rw [h] at e1
  rw [e1, ← Nat.mul_mod, ← Nat.pow_add, ← Nat.two_mul, Nat.pow_succ (n := A), Nat.mod_mul_mod]

theorem Lim.of_lt {k n m : Nat} (h : Lim k m) (hn : n < m) : Lim k n := h.le (Nat.le_of_lt hn)
/-! ### what is refused -/
def bigB (n : Nat) : Bool := decide (4096 < bl n)
theorem lim_of_bl {n k : Nat} (h : bl n ≤ 32 * k) : Lim k n := ⟨by
  rw [Rpow_two]
  exact (bl_le_iff n (32 * k)).1 h⟩
theorem bigB_lim {n : Nat} (h : bigB n = false) : Lim 128 n := lim_of_bl (by have := of_decide_eq_false h; omega)
def wrongN (ns : List Nat) : Int := if ns.any bigB then 10 else if ns.getLastD 0 < 2 then 60 else 0
theorem wrongN_rng (ns : List Nat) : wrongN ns = 10 ∨ wrongN ns = 60 ∨ wrongN ns = 0 := by
  unfold wrongN
  split
  · exact .inl rfl
  · split
    · exact .inr (.inl rfl)
    · exact .inr (.inr rfl)
theorem wrongN_ok {ns : List Nat} (h : wrongN ns = 0) : (∀ n ∈ ns, Lim 128 n) ∧ 2 ≤ ns.getLastD 0 := by
  unfold wrongN at h
  split at h
  · cases h
  · rename_i h1
    split at h
    · cases h
    · rename_i h2
      refine ⟨fun n hn => bigB_lim ?_, by omega⟩
      cases hb : bigB n
      · rfl
      · exact absurd (List.any_eq_true.2 ⟨n, hn, hb⟩) h1
end Go.Sg
/- SHA-2 in plain words: the schedule, the rounds, blocks, padding. No program in sight. -/
set_option linter.unusedVariables false
set_option linter.unusedSimpArgs false
namespace Go.Sg

/-- A word as a whole number. -/
def wi {n : Nat} (v : BitVec n) : Int := (v.toNat : Int)
theorem wi_rng32 (v : BitVec 32) : 0 ≤ wi v ∧ wi v ≤ 4294967295 := by have := v.isLt; unfold wi; omega
theorem wi_rng64 (v : BitVec 64) : 0 ≤ wi v ∧ wi v ≤ 18446744073709551615 := by have := v.isLt; unfold wi; omega

/-- Eight words. -/
structure S8 (n : Nat) where
  a : BitVec n
  b : BitVec n
  c : BitVec n
  d : BitVec n
  e : BitVec n
  f : BitVec n
  g : BitVec n
  h : BitVec n
def S8.list {n : Nat} (s : S8 n) : List (BitVec n) := [s.a, s.b, s.c, s.d, s.e, s.f, s.g, s.h]
def S8.of {n : Nat} (l : List (BitVec n)) : S8 n := ⟨l.getD 0 0, l.getD 1 0, l.getD 2 0, l.getD 3 0, l.getD 4 0, l.getD 5 0, l.getD 6 0, l.getD 7 0⟩
theorem S8.of_list {n : Nat} (s : S8 n) : S8.of s.list = s := rfl
def S8.plus {n : Nat} (s t : S8 n) : S8 n := ⟨s.a + t.a, s.b + t.b, s.c + t.c, s.d + t.d, s.e + t.e, s.f + t.f, s.g + t.g, s.h + t.h⟩

/-- Turned to the right by n of n + k bits. -/
def turn {m : Nat} (x : BitVec m) (n k : Nat) : BitVec m := x >>> n ||| x <<< k
def ch {n : Nat} (e f g : BitVec n) : BitVec n := g ^^^ (e &&& (f ^^^ g))
def maj {n : Nat} (a b c : BitVec n) : BitVec n := (a &&& b) ||| (c &&& (a ||| b))

/-! ### words of 32 bits -/
def sig32 (y x : BitVec 32) (w16 w7 : BitVec 32) : BitVec 32 :=
  w16 + w7 + (turn x 7 25 ^^^ turn x 18 14 ^^^ x >>> 3) + (turn y 17 15 ^^^ turn y 19 13 ^^^ y >>> 10)
def next32 (w : List (BitVec 32)) : BitVec 32 :=
  sig32 (w.getD (w.length - 2) 0) (w.getD (w.length - 15) 0) (w.getD (w.length - 16) 0) (w.getD (w.length - 7) 0)
def sched32 (m : List (BitVec 32)) : Nat → List (BitVec 32)
  | 0 => m
  | k + 1 => sched32 m k ++ [next32 (sched32 m k)]
def tt32 (s : S8 32) (k w : BitVec 32) : BitVec 32 := s.h + (turn s.e 6 26 ^^^ turn s.e 11 21 ^^^ turn s.e 25 7) + ch s.e s.f s.g + k + w
def uu32 (s : S8 32) : BitVec 32 := (turn s.a 2 30 ^^^ turn s.a 13 19 ^^^ turn s.a 22 10) + maj s.a s.b s.c
def round32 (s : S8 32) (k w : BitVec 32) : S8 32 := ⟨tt32 s k w + uu32 s, s.a, s.b, s.c, s.d + tt32 s k w, s.e, s.f, s.g⟩
def rounds32 (K W : List (BitVec 32)) (s : S8 32) : Nat → S8 32
  | 0 => s
  | k + 1 => round32 (rounds32 K W s k) (K.getD k 0) (W.getD k 0)
/-- The word of four bytes from p on. -/
def word32 (bs : List Int) (p : Nat) : BitVec 32 := .ofNat 32 ((nth bs p).toNat * 16777216 + (nth bs (p + 1)).toNat * 65536 + (nth bs (p + 2)).toNat * 256 + (nth bs (p + 3)).toNat)
def words32 (bs : List Int) (p n : Nat) : List (BitVec 32) := (List.range n).map fun i => word32 bs (p + 4 * i)
def block32 (K : List (BitVec 32)) (s : S8 32) (bs : List Int) (p : Nat) : S8 32 := s.plus (rounds32 K (sched32 (words32 bs p 16) 48) s 64)
def blocks32 (K : List (BitVec 32)) (s : S8 32) (bs : List Int) : Nat → S8 32
  | 0 => s
  | k + 1 => block32 K (blocks32 K s bs k) bs (64 * k)

/-! ### words of 64 bits -/
def sig64 (y x : BitVec 64) (w16 w7 : BitVec 64) : BitVec 64 :=
  w16 + w7 + (turn x 1 63 ^^^ turn x 8 56 ^^^ x >>> 7) + (turn y 19 45 ^^^ turn y 61 3 ^^^ y >>> 6)
def next64 (w : List (BitVec 64)) : BitVec 64 :=
  sig64 (w.getD (w.length - 2) 0) (w.getD (w.length - 15) 0) (w.getD (w.length - 16) 0) (w.getD (w.length - 7) 0)
def sched64 (m : List (BitVec 64)) : Nat → List (BitVec 64)
  | 0 => m
  | k + 1 => sched64 m k ++ [next64 (sched64 m k)]
def tt64 (s : S8 64) (k w : BitVec 64) : BitVec 64 := s.h + (turn s.e 14 50 ^^^ turn s.e 18 46 ^^^ turn s.e 41 23) + ch s.e s.f s.g + k + w
def uu64 (s : S8 64) : BitVec 64 := (turn s.a 28 36 ^^^ turn s.a 34 30 ^^^ turn s.a 39 25) + maj s.a s.b s.c
def round64 (s : S8 64) (k w : BitVec 64) : S8 64 := ⟨tt64 s k w + uu64 s, s.a, s.b, s.c, s.d + tt64 s k w, s.e, s.f, s.g⟩
def rounds64 (K W : List (BitVec 64)) (s : S8 64) : Nat → S8 64
  | 0 => s
  | k + 1 => round64 (rounds64 K W s k) (K.getD k 0) (W.getD k 0)
/-- The number of the first n of eight bytes from p on. -/
def part64 (bs : List Int) (p : Nat) : Nat → BitVec 64
  | 0 => 0
  | n + 1 => part64 bs p n <<< 8 ||| .ofNat 64 (nth bs (p + n)).toNat
def words64 (bs : List Int) (p n : Nat) : List (BitVec 64) := (List.range n).map fun i => part64 bs (p + 8 * i) 8
def block64 (K : List (BitVec 64)) (s : S8 64) (bs : List Int) (p : Nat) : S8 64 := s.plus (rounds64 K (sched64 (words64 bs p 16) 64) s 80)
def blocks64 (K : List (BitVec 64)) (s : S8 64) (bs : List Int) : Nat → S8 64
  | 0 => s
  | k + 1 => block64 K (blocks64 K s bs k) bs (128 * k)

/-! ### padding -/
/-- How many noughts stand ahead of the length. -/
def gap (block field n : Nat) : Nat := (2 * block - field - 1 - n % block) % block
/-- The length in bits, in so many bytes. -/
def lenB (n k : Nat) : List Int := (List.range k).map fun i => ((8 * n / 256 ^ (k - 1 - i) % 256 : Nat) : Int)
def tail_ (block field n : Nat) : List Int := 128 :: (List.replicate (gap block field n) 0 ++ lenB n field)
def padded (block field : Nat) (bs : List Int) : List Int := bs ++ tail_ block field bs.length

def bytes32 (v : BitVec 32) : List Int := [(v.toNat / 16777216 % 256 : Nat), (v.toNat / 65536 % 256 : Nat), (v.toNat / 256 % 256 : Nat), (v.toNat % 256 : Nat)]
def bytes64 (v : BitVec 64) : List Int := (List.range 8).map fun i => ((v.toNat / 256 ^ (7 - i) % 256 : Nat) : Int)

def K256 : List (BitVec 32) := [
  0x428a2f98, 0x71374491, 0xb5c0fbcf, 0xe9b5dba5, 0x3956c25b, 0x59f111f1, 0x923f82a4, 0xab1c5ed5,
  0xd807aa98, 0x12835b01, 0x243185be, 0x550c7dc3, 0x72be5d74, 0x80deb1fe, 0x9bdc06a7, 0xc19bf174,
  0xe49b69c1, 0xefbe4786, 0x0fc19dc6, 0x240ca1cc, 0x2de92c6f, 0x4a7484aa, 0x5cb0a9dc, 0x76f988da,
  0x983e5152, 0xa831c66d, 0xb00327c8, 0xbf597fc7, 0xc6e00bf3, 0xd5a79147, 0x06ca6351, 0x14292967,
  0x27b70a85, 0x2e1b2138, 0x4d2c6dfc, 0x53380d13, 0x650a7354, 0x766a0abb, 0x81c2c92e, 0x92722c85,
  0xa2bfe8a1, 0xa81a664b, 0xc24b8b70, 0xc76c51a3, 0xd192e819, 0xd6990624, 0xf40e3585, 0x106aa070,
  0x19a4c116, 0x1e376c08, 0x2748774c, 0x34b0bcb5, 0x391c0cb3, 0x4ed8aa4a, 0x5b9cca4f, 0x682e6ff3,
  0x748f82ee, 0x78a5636f, 0x84c87814, 0x8cc70208, 0x90befffa, 0xa4506ceb, 0xbef9a3f7, 0xc67178f2]
def K512 : List (BitVec 64) := [
  0x428a2f98d728ae22, 0x7137449123ef65cd, 0xb5c0fbcfec4d3b2f, 0xe9b5dba58189dbbc,
  0x3956c25bf348b538, 0x59f111f1b605d019, 0x923f82a4af194f9b, 0xab1c5ed5da6d8118,
  0xd807aa98a3030242, 0x12835b0145706fbe, 0x243185be4ee4b28c, 0x550c7dc3d5ffb4e2,
  0x72be5d74f27b896f, 0x80deb1fe3b1696b1, 0x9bdc06a725c71235, 0xc19bf174cf692694,
  0xe49b69c19ef14ad2, 0xefbe4786384f25e3, 0x0fc19dc68b8cd5b5, 0x240ca1cc77ac9c65,
  0x2de92c6f592b0275, 0x4a7484aa6ea6e483, 0x5cb0a9dcbd41fbd4, 0x76f988da831153b5,
  0x983e5152ee66dfab, 0xa831c66d2db43210, 0xb00327c898fb213f, 0xbf597fc7beef0ee4,
  0xc6e00bf33da88fc2, 0xd5a79147930aa725, 0x06ca6351e003826f, 0x142929670a0e6e70,
  0x27b70a8546d22ffc, 0x2e1b21385c26c926, 0x4d2c6dfc5ac42aed, 0x53380d139d95b3df,
  0x650a73548baf63de, 0x766a0abb3c77b2a8, 0x81c2c92e47edaee6, 0x92722c851482353b,
  0xa2bfe8a14cf10364, 0xa81a664bbc423001, 0xc24b8b70d0f89791, 0xc76c51a30654be30,
  0xd192e819d6ef5218, 0xd69906245565a910, 0xf40e35855771202a, 0x106aa07032bbd1b8,
  0x19a4c116b8d2d0c8, 0x1e376c085141ab53, 0x2748774cdf8eeb99, 0x34b0bcb5e19b48a8,
  0x391c0cb3c5c95a63, 0x4ed8aa4ae3418acb, 0x5b9cca4f7763e373, 0x682e6ff3d6b2b8a3,
  0x748f82ee5defb2fc, 0x78a5636f43172f60, 0x84c87814a1f0ab72, 0x8cc702081a6439ec,
  0x90befffa23631e28, 0xa4506cebde82bde9, 0xbef9a3f7b2c67915, 0xc67178f2e372532b,
  0xca273eceea26619c, 0xd186b8c721c0c207, 0xeada7dd6cde0eb1e, 0xf57d4f7fee6ed178,
  0x06f067aa72176fba, 0x0a637dc5a2c898a6, 0x113f9804bef90dae, 0x1b710b35131c471b,
  0x28db77f523047d84, 0x32caab7b40c72493, 0x3c9ebe0a15c9bebc, 0x431d67c49c100d4c,
  0x4cc5d4becb3e42b6, 0x597f299cfc657e2a, 0x5fcb6fab3ad6faec, 0x6c44198c4a475817]
def start256 : S8 32 := ⟨0x6a09e667, 0xbb67ae85, 0x3c6ef372, 0xa54ff53a, 0x510e527f, 0x9b05688c, 0x1f83d9ab, 0x5be0cd19⟩
def start384 : S8 64 := ⟨0xcbbb9d5dc1059ed8, 0x629a292a367cd507, 0x9159015a3070dd17, 0x152fecd8f70e5939, 0x67332667ffc00b31, 0x8eb44a8768581511, 0xdb0c2e0d64f98fa7, 0x47b5481dbefa4fa4⟩
def start512 : S8 64 := ⟨0x6a09e667f3bcc908, 0xbb67ae8584caa73b, 0x3c6ef372fe94f82b, 0xa54ff53a5f1d36f1, 0x510e527fade682d1, 0x9b05688c2b3e6c1f, 0x1f83d9abfb41bd6b, 0x5be0cd19137e2179⟩

def sum32 (s : S8 32) (bs : List Int) : List Int := (blocks32 K256 s (padded 64 8 bs) ((padded 64 8 bs).length / 64)).list.flatMap bytes32
def sum64 (s : S8 64) (bs : List Int) : List Int := (blocks64 K512 s (padded 128 16 bs) ((padded 128 16 bs).length / 128)).list.flatMap bytes64
/-- The sum of a text. -/
def sha (h : Int) (bs : List Int) : List Int :=
  if h = 1 then sum32 start256 bs else if h = 2 then (sum64 start384 bs).take 48 else if h = 3 then sum64 start512 bs else []
def shaSize (h : Int) : Nat := if h = 1 then 32 else if h = 2 then 48 else if h = 3 then 64 else 0
def shaBlock (h : Int) : Nat := if h = 1 then 64 else if h = 2 then 128 else if h = 3 then 128 else 0

set_option maxRecDepth 100000 in
theorem sha_abc256 : sha 1 [97, 98, 99] = [0xba, 0x78, 0x16, 0xbf, 0x8f, 0x01, 0xcf, 0xea, 0x41, 0x41, 0x40, 0xde, 0x5d, 0xae, 0x22, 0x23, 0xb0, 0x03, 0x61, 0xa3, 0x96, 0x17, 0x7a, 0x9c, 0xb4, 0x10, 0xff, 0x61, 0xf2, 0x00, 0x15, 0xad] := by decide +kernel
set_option maxRecDepth 100000 in
theorem sha_abc512 : nth (sha 3 [97, 98, 99]) 0 = 0xdd ∧ nth (sha 3 [97, 98, 99]) 63 = 0x9f := by decide +kernel
set_option maxRecDepth 100000 in
theorem sha_abc384 : nth (sha 2 [97, 98, 99]) 0 = 0xcb ∧ nth (sha 2 [97, 98, 99]) 47 = 0xa7 := by decide +kernel
end Go.Sg
