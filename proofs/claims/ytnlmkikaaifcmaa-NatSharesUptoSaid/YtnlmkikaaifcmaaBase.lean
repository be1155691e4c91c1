/- Slices of numbers in memory: how they read, new rows, and the laws of make, append and copy in these words. No program in sight. -/
import Derived.WalkKit
import Derived.WalkSpells
import Derived.WalkLawsBesides
import Derived.Lib.Hide
set_option linter.unusedVariables false
set_option linter.unusedSimpArgs false
namespace Go.Sg
open Go.RowKit

/-- The number at a place; 0 behind the end. -/
def nth (xs : List Int) (i : Nat) : Int := xs.getD i 0

theorem nth_get (xs : List Int) (i : Nat) (h : i < xs.length) : nth xs i = xs[i] := by simp [nth, h]
theorem nth_out (xs : List Int) (i : Nat) (h : xs.length ≤ i) : nth xs i = 0 := by simp [nth, h]
theorem nth_set (xs : List Int) (i j : Nat) (x : Int) (h : i < xs.length) : nth (xs.set i x) j = if i = j then x else nth xs j := by
  simp only [nth, List.getD_eq_getElem?_getD, List.getElem?_set, h, if_true]
  split <;> rfl
theorem nth_take (xs : List Int) (n i : Nat) (h : i < n) : nth (xs.take n) i = nth xs i := by
  simp [nth, h]
theorem nth_drop (xs : List Int) (n i : Nat) : nth (xs.drop n) i = nth xs (n + i) := by
  simp [nth, List.getElem?_drop]
theorem nth_append_left (xs ys : List Int) (i : Nat) (h : i < xs.length) : nth (xs ++ ys) i = nth xs i := by
  simp [nth, List.getElem?_append, h]
theorem nth_append_right (xs ys : List Int) (i : Nat) : nth (xs ++ ys) (xs.length + i) = nth ys i := by
  have h : ¬ xs.length + i < xs.length := by omega
  simp [nth, List.getElem?_append, h]
theorem nth_replicate (n : Nat) (x : Int) (i : Nat) (h : i < n) : nth (List.replicate n x) i = x := by
  simp [nth, h]
theorem nth_replicate0 (n i : Nat) : nth (List.replicate n 0) i = 0 := by
  simp only [nth, List.getD_eq_getElem?_getD, List.getElem?_replicate]; split <;> rfl
theorem nth_mem (xs : List Int) (i : Nat) (h : i < xs.length) : nth xs i ∈ xs := by
  rw [nth_get _ _ h]; exact List.getElem_mem _
theorem take_succ_nth (xs : List Int) (k : Nat) (h : k < xs.length) : xs.take (k + 1) = xs.take k ++ [nth xs k] := by
  rw [List.take_succ_eq_append_getElem h, nth_get _ _ h]
theorem drop_nth (xs : List Int) (k : Nat) (h : k < xs.length) : xs.drop k = nth xs k :: xs.drop (k + 1) := by
  rw [List.drop_eq_getElem_cons h, nth_get _ _ h]
theorem ext_nth (xs ys : List Int) (hl : xs.length = ys.length) (h : ∀ i, i < xs.length → nth xs i = nth ys i) : xs = ys := by
  apply List.ext_getElem hl
  intro i h1 h2
  have := h i h1
  rwa [nth_get _ _ h1, nth_get _ _ h2] at this

/-- Numbers within their bound (0 behind the end is, too). -/
def InR (m : Int) (xs : List Int) : Prop := ∀ i, 0 ≤ nth xs i ∧ nth xs i ≤ m
abbrev U32 (xs : List Int) : Prop := InR 4294967295 xs
abbrev U8 (xs : List Int) : Prop := InR 255 xs

theorem InR.mem {m : Int} {xs : List Int} (h : InR m xs) : ∀ x ∈ xs, 0 ≤ x ∧ x ≤ m := by
  intro x hx
  obtain ⟨i, hi, rfl⟩ := List.getElem_of_mem hx
  have := h i
  rwa [nth_get _ _ hi] at this
theorem InR.of_mem {m : Int} {xs : List Int} (hm : 0 ≤ m) (h : ∀ x ∈ xs, 0 ≤ x ∧ x ≤ m) : InR m xs := by
  intro i
  by_cases hi : i < xs.length
  · exact h _ (nth_mem _ _ hi)
  · rw [nth_out _ _ (by omega)]; omega
theorem InR.nil {m : Int} (hm : 0 ≤ m) : InR m [] := .of_mem hm (by simp)
theorem InR.append {m : Int} {xs ys : List Int} (hm : 0 ≤ m) (h : InR m xs) (h' : InR m ys) : InR m (xs ++ ys) :=
  .of_mem hm fun x hx => by
    rcases List.mem_append.1 hx with hx | hx
    · exact h.mem x hx
    · exact h'.mem x hx
theorem InR.one {m x : Int} (h0 : 0 ≤ x) (h1 : x ≤ m) : InR m [x] := .of_mem (by omega) (by simp; omega)
theorem InR.set {m : Int} {xs : List Int} (h : InR m xs) (i : Nat) {x : Int} (h0 : 0 ≤ x) (h1 : x ≤ m) : InR m (xs.set i x) :=
  .of_mem (by omega) fun y hy => by
    rcases List.mem_or_eq_of_mem_set hy with hy | rfl
    · exact h.mem y hy
    · exact ⟨h0, h1⟩
theorem InR.take {m : Int} {xs : List Int} (hm : 0 ≤ m) (h : InR m xs) (n : Nat) : InR m (xs.take n) := .of_mem hm fun x hx => h.mem x (List.mem_of_mem_take hx)
theorem InR.drop {m : Int} {xs : List Int} (hm : 0 ≤ m) (h : InR m xs) (n : Nat) : InR m (xs.drop n) := .of_mem hm fun x hx => h.mem x (List.mem_of_mem_drop hx)
theorem InR.zeros {m : Int} (hm : 0 ≤ m) (n : Nat) : InR m (List.replicate n 0) := fun i => by rw [nth_replicate0]; omega
theorem InR.reverse {m : Int} {xs : List Int} (hm : 0 ≤ m) (h : InR m xs) : InR m xs.reverse := .of_mem hm fun x hx => h.mem x (by simpa using hx)

/-- The cells behind an address that may be missing where there is nothing to read. -/
def Cells (k : IntKind) (w : World) (a : Option Addr) (xs : List Int) : Prop :=
  0 < xs.length → ∃ b off, a = some ⟨b, off, none⟩ ∧ ∀ j, j < xs.length → w.cell? ⟨b, off + j, none⟩ = some (.int k (nth xs j))

theorem Cells.nil (k : IntKind) (w : World) (a : Option Addr) : Cells k w a [] := fun h => by simp at h
theorem Cells.take {k : IntKind} {w : World} {a : Option Addr} {xs : List Int} (h : Cells k w a xs) (n : Nat) : Cells k w a (xs.take n) := by
  intro hl
  simp only [List.length_take] at hl
  obtain ⟨b, off, ha, hc⟩ := h (by omega)
  refine ⟨b, off, ha, fun j hj => ?_⟩
  simp only [List.length_take] at hj
  rw [hc j (by omega), nth_take _ _ _ (by omega)]
theorem Cells.lt {k : IntKind} {w : World} {b off : Nat} {xs : List Int} (h : Cells k w (some ⟨b, off, none⟩) xs) (hp : 0 < xs.length) : b < w.heap.size := by
  obtain ⟨b', off', ha, hc⟩ := h hp
  simp only [Option.some.injEq, Addr.mk.injEq, and_true] at ha
  obtain ⟨rfl, rfl⟩ := ha
  exact World.block_lt_of_cell? w _ (hc 0 hp)
theorem Cells.same {k : IntKind} {w w' : World} {a : Option Addr} {xs : List Int} (h : Cells k w a xs)
    (hb : ∀ b off, a = some ⟨b, off, none⟩ → b < w.heap.size → w'.heap[b]? = w.heap[b]?) : Cells k w' a xs := by
  intro hp
  obtain ⟨b, off, ha, hc⟩ := h hp
  refine ⟨b, off, ha, fun j hj => ?_⟩
  rw [World.cell?_of_block (w := w) (hb b off ha (World.block_lt_of_cell? w _ (hc j hj)))]
  exact hc j hj
theorem Cells.below {k : IntKind} {w w' : World} {a : Option Addr} {xs : List Int} (h : Cells k w a xs) (hb : Below w.heap.size w w') : Cells k w' a xs :=
  h.same fun b _ _ hlt => hb.block b hlt
theorem Cells.drewN {k : IntKind} {w : World} {a : Option Addr} {xs : List Int} (h : Cells k w a xs) (n : Nat) : Cells k (w.drewN n) a xs :=
  h.same fun _ _ _ _ => rfl

/-- A slice value that reads as these numbers. -/
structure Sl (k : IntKind) (w : World) (a : Option Addr) (cap : Nat) (xs : List Int) : Prop where
  le : xs.length ≤ cap
  max : cap ≤ 9223372036854775807
  cells : Cells k w a xs

theorem Sl.below {k : IntKind} {w w' : World} {a : Option Addr} {cap : Nat} {xs : List Int} (h : Sl k w a cap xs) (hb : Below w.heap.size w w') : Sl k w' a cap xs := ⟨h.le, h.max, h.cells.below hb⟩
theorem Sl.drewN {k : IntKind} {w : World} {a : Option Addr} {cap : Nat} {xs : List Int} (h : Sl k w a cap xs) (n : Nat) : Sl k (w.drewN n) a cap xs := ⟨h.le, h.max, h.cells.drewN n⟩
theorem Sl.take {k : IntKind} {w : World} {a : Option Addr} {cap : Nat} {xs : List Int} (h : Sl k w a cap xs) (n : Nat) : Sl k w a cap (xs.take n) :=
  ⟨by have := h.le; simp; omega, h.max, h.cells.take n⟩
theorem Sl.nil (k : IntKind) (w : World) (a : Option Addr) (cap : Nat) (h : cap ≤ 9223372036854775807) : Sl k w a cap [] := ⟨by simp, h, .nil _ _ _⟩
/-- The same numbers with no spare room. -/
theorem Sl.short {k : IntKind} {w : World} {a : Option Addr} {cap : Nat} {xs : List Int} (h : Sl k w a cap xs) : Sl k w a xs.length xs := ⟨Nat.le_refl _, Nat.le_trans h.le h.max, h.cells⟩

/-- A whole row of numbers, not frozen. -/
def Blk (w : World) (g : Nat) (k : IntKind) (E : TypeId) (xs : List Int) : Prop := w.heap[g]? = some (.cells (xs.map (Value.int k)).toArray E (0, 0))

section
variable {w : World} {g : Nat} {k : IntKind} {E : TypeId} {xs : List Int}
theorem Blk.lt (h : Blk w g k E xs) : g < w.heap.size := (Array.getElem?_eq_some_iff.1 h).1
theorem Blk.cell (h : Blk w g k E xs) (i : Nat) (hi : i < xs.length) : w.cell? ⟨g, i, none⟩ = some (.int k (nth xs i)) := by
  rw [cell_of_row w g i _ E (0, 0) h]
  simp [hi, nth_get]
theorem Blk.cell0 (h : Blk w g k E xs) (i : Nat) (hi : i < xs.length) : w.cell? ⟨g, 0 + i, none⟩ = some (.int k (nth xs i)) := by
  rw [Nat.zero_add]; exact h.cell i hi
theorem Blk.free (h : Blk w g k E xs) (i : Nat) : w.frozen? ⟨g, i, none⟩ = false := frozen_of_row w g i _ E h
theorem Blk.set (h : Blk w g k E xs) (i : Nat) (x : Int) : Blk (w.setCell ⟨g, i, none⟩ (.int k x)) g k E (xs.set i x) := by
  have := heap_setCell_same w g i _ E (.int k x) h
  rw [Blk, this, List.map_set]
  simp
theorem Blk.other (h : Blk w g k E xs) {b : Nat} (hb : g ≠ b) (i : Nat) (v : Value) : Blk (w.setCell ⟨b, i, none⟩ v) g k E xs := by
  rw [Blk, heap_setCell_other _ _ _ _ hb]; exact h
theorem Blk.below {w' : World} {B : Nat} (h : Blk w g k E xs) (hb : Below B w w') (hg : g < B) : Blk w' g k E xs := (hb.block g hg).trans h
theorem Blk.grown {w' : World} {row : Option Nat} (h : Blk w g k E xs) (hb : w.grownBy w' row) (hg : some g ≠ row) : Blk w' g k E xs := (hb.block g h.lt hg).trans h
theorem Blk.alloc (h : Blk w g k E xs) (o : Obj) : Blk (w.alloc o) g k E xs := (Below.heap_alloc w o g h.lt).trans h
theorem Blk.cells (h : Blk w g k E xs) : Cells k w (some ⟨g, 0, none⟩) xs := fun _ => ⟨g, 0, rfl, fun j hj => h.cell0 j hj⟩
theorem Blk.sl (h : Blk w g k E xs) (n cap : Nat) (h1 : n ≤ cap) (h2 : cap ≤ 9223372036854775807) : Sl k w (some ⟨g, 0, none⟩) cap (xs.take n) :=
  ⟨by simp; omega, h2, h.cells.take n⟩
theorem Blk.sl_full (h : Blk w g k E xs) (h2 : xs.length ≤ 9223372036854775807) : Sl k w (some ⟨g, 0, none⟩) xs.length xs := ⟨Nat.le_refl _, h2, h.cells⟩
end

/-- A slice in the call's own memory: nil, or at the head of a row from block B on. -/
def New (B : Nat) (k : IntKind) (E : TypeId) (w : World) (v : Value) (xs : List Int) : Prop :=
  (v = .slice none 0 0 ∧ xs = []) ∨
  ∃ g cap cs, v = .slice (some ⟨g, 0, none⟩) xs.length cap ∧ B ≤ g ∧ w.heap[g]? = some (.cells cs E (0, 0)) ∧ xs.length ≤ cap ∧ cap ≤ cs.size ∧ cap ≤ 9223372036854775807 ∧ cs.toList.take xs.length = xs.map (Value.int k)

section
variable {B : Nat} {k : IntKind} {E : TypeId} {w : World} {v : Value} {xs : List Int}
theorem New.nil (B : Nat) (k : IntKind) (E : TypeId) (w : World) : New B k E w (.slice none 0 0) [] := .inl ⟨rfl, rfl⟩
theorem New.of_blk {g : Nat} (h : Blk w g k E xs) (hB : B ≤ g) (n cap : Nat) (h1 : n ≤ cap) (h2 : cap ≤ xs.length) (h3 : cap ≤ 9223372036854775807) : New B k E w (.slice (some ⟨g, 0, none⟩) n cap) (xs.take n) := by
  refine .inr ⟨g, cap, _, ?_, hB, h, ?_, ?_, h3, ?_⟩
  · simp; omega
  · simp; omega
  · simp; omega
  · simp
theorem New.mono {B' : Nat} (h : New B k E w v xs) (hB : B' ≤ B) : New B' k E w v xs := by
  rcases h with h | ⟨g, cap, cs, hv, hg, r⟩
  · exact .inl h
  · exact .inr ⟨g, cap, cs, hv, by omega, r⟩
/-- As a value: its address, its length. -/
theorem New.sl (h : New B k E w v xs) : ∃ a cap, v = .slice a xs.length cap ∧ Sl k w a cap xs := by
  rcases h with ⟨rfl, rfl⟩ | ⟨g, cap, cs, hv, hg, hh, h1, h2, h3, h4⟩
  · exact ⟨none, 0, rfl, .nil _ _ _ _ (by omega)⟩
  · refine ⟨_, cap, hv, h1, h3, fun hp => ⟨g, 0, rfl, fun j hj => ?_⟩⟩
    rw [Nat.zero_add, cell_of_row w g j cs E (0, 0) hh]
    have e : cs.toList[j]? = (cs.toList.take xs.length)[j]? := by rw [List.getElem?_take, if_pos hj]
    rw [← Array.getElem?_toList, e, h4]
    simp [nth, hj]
theorem New.kept {w' : World} {row : Option Nat} (h : New B k E w v xs) (hg : w.grownBy w' row) (hne : v.ownBlock = none ∨ v.ownBlock ≠ row) : New B k E w' v xs := by
  rcases h with h | ⟨g, cap, cs, rfl, hb, hh, r⟩
  · exact .inl h
  · refine .inr ⟨g, cap, cs, rfl, hb, ?_, r⟩
    rw [hg.block g (Array.getElem?_eq_some_iff.1 hh).1 (by simpa [Value.ownBlock] using hne)]
    exact hh
theorem New.below {w' : World} {B' : Nat} (h : New B k E w v xs) (hb : Below B' w w') (hlt : ∀ g, v.ownBlock = some g → g < B') : New B k E w' v xs := by
  rcases h with h | ⟨g, cap, cs, rfl, hbg, hh, r⟩
  · exact .inl h
  · exact .inr ⟨g, cap, cs, rfl, hbg, (hb.block g (hlt g rfl)).trans hh, r⟩
theorem New.lt (h : New B k E w v xs) : ∀ g, v.ownBlock = some g → B ≤ g ∧ g < w.heap.size := by
  intro g hg
  rcases h with ⟨rfl, _⟩ | ⟨g', cap, cs, rfl, hbg, hh, _⟩
  · simp [Value.ownBlock] at hg
  · simp [Value.ownBlock] at hg
    subst hg
    exact ⟨hbg, (Array.getElem?_eq_some_iff.1 hh).1⟩
theorem New.keep {w' : World} (h : New B k E w v xs) (hb : Below w.heap.size w w') : New B k E w' v xs := h.below hb fun g hg => (h.lt g hg).2
theorem New.alloc (h : New B k E w v xs) (o : Obj) : New B k E (w.alloc o) v xs := h.kept (World.grownBy_alloc w o none) (by cases hv : v.ownBlock <;> simp)
end

theorem below_of_grown {w w' : World} {row : Option Nat} {B : Nat} (h : w.grownBy w' row) (hB : B ≤ w.heap.size) (hr : ∀ g, row = some g → B ≤ g) : Below B w w' :=
  (Below.refl B w).grown h hB hr

/-- The row at g has room for cap and begins with these numbers. -/
def Pre (w : World) (g : Nat) (k : IntKind) (E : TypeId) (cap : Nat) (xs : List Int) : Prop :=
  ∃ cs, w.heap[g]? = some (.cells cs E (0, 0)) ∧ xs.length ≤ cap ∧ cap ≤ cs.size ∧ cap ≤ 9223372036854775807 ∧ cs.toList.take xs.length = xs.map (Value.int k)
section
variable {w : World} {g : Nat} {k : IntKind} {E : TypeId} {cap : Nat} {xs : List Int}
theorem New.pre {B : Nat} {v : Value} (h : New B k E w v xs) (hp : 0 < xs.length) : ∃ g cap, v = .slice (some ⟨g, 0, none⟩) xs.length cap ∧ B ≤ g ∧ Pre w g k E cap xs := by
  rcases h with ⟨_, rfl⟩ | ⟨g, cap, cs, hv, hg, hh, h1, h2, h3, h4⟩
  · simp at hp
  · exact ⟨g, cap, hv, hg, cs, hh, h1, h2, h3, h4⟩
theorem Pre.new (h : Pre w g k E cap xs) {B : Nat} (hB : B ≤ g) : New B k E w (.slice (some ⟨g, 0, none⟩) xs.length cap) xs := by
  obtain ⟨cs, hh, h1, h2, h3, h4⟩ := h
  exact .inr ⟨g, cap, cs, rfl, hB, hh, h1, h2, h3, h4⟩
theorem Pre.le (h : Pre w g k E cap xs) : xs.length ≤ cap := by obtain ⟨cs, hh, h1, h2, h3, h4⟩ := h; exact h1
theorem Pre.max (h : Pre w g k E cap xs) : cap ≤ 9223372036854775807 := by obtain ⟨cs, hh, h1, h2, h3, h4⟩ := h; exact h3
theorem Pre.lt (h : Pre w g k E cap xs) : g < w.heap.size := by obtain ⟨cs, hh, _⟩ := h; exact (Array.getElem?_eq_some_iff.1 hh).1
theorem Pre.cell (h : Pre w g k E cap xs) (i : Nat) (hi : i < xs.length) : w.cell? ⟨g, i, none⟩ = some (.int k (nth xs i)) := by
  obtain ⟨cs, hh, h1, h2, h3, h4⟩ := h
  rw [cell_of_row w g i cs E (0, 0) hh]
  have e : cs.toList[i]? = (cs.toList.take xs.length)[i]? := by rw [List.getElem?_take, if_pos hi]
  rw [← Array.getElem?_toList, e, h4]
  simp [nth, hi]
theorem Pre.free (h : Pre w g k E cap xs) (i : Nat) : w.frozen? ⟨g, i, none⟩ = false := by obtain ⟨cs, hh, _⟩ := h; exact frozen_of_row w g i cs E hh
theorem Pre.set (h : Pre w g k E cap xs) (i : Nat) (x : Int) : Pre (w.setCell ⟨g, i, none⟩ (.int k x)) g k E cap (xs.set i x) := by
  obtain ⟨cs, hh, h1, h2, h3, h4⟩ := h
  refine ⟨_, heap_setCell_same w g i cs E (.int k x) hh, by simpa using h1, by simpa using h2, h3, ?_⟩
  rw [Array.toList_setIfInBounds, List.length_set, List.take_set, h4, List.map_set]
theorem Pre.other (h : Pre w g k E cap xs) {b : Nat} (hb : g ≠ b) (i : Nat) (v : Value) : Pre (w.setCell ⟨b, i, none⟩ v) g k E cap xs := by
  obtain ⟨cs, hh, r⟩ := h
  exact ⟨cs, by rw [heap_setCell_other _ _ _ _ hb]; exact hh, r⟩
theorem Pre.below {w' : World} {B : Nat} (h : Pre w g k E cap xs) (hb : Below B w w') (hg : g < B) : Pre w' g k E cap xs := by
  obtain ⟨cs, hh, r⟩ := h
  exact ⟨cs, (hb.block g hg).trans hh, r⟩
theorem Pre.keep {w' : World} (h : Pre w g k E cap xs) (hb : Below w.heap.size w w') : Pre w' g k E cap xs := h.below hb h.lt
theorem Pre.grown {w' : World} {row : Option Nat} (h : Pre w g k E cap xs) (hb : w.grownBy w' row) (hg : some g ≠ row) : Pre w' g k E cap xs := by
  obtain ⟨cs, hh, r⟩ := h
  exact ⟨cs, (hb.block g (Array.getElem?_eq_some_iff.1 hh).1 hg).trans hh, r⟩
theorem Pre.alloc (h : Pre w g k E cap xs) (o : Obj) : Pre (w.alloc o) g k E cap xs := by
  obtain ⟨cs, hh, r⟩ := h
  exact ⟨cs, (Below.heap_alloc w o g (Array.getElem?_eq_some_iff.1 hh).1).trans hh, r⟩
theorem Pre.drew (h : Pre w g k E cap xs) : Pre w.drew g k E cap xs := h
theorem Pre.drewN (h : Pre w g k E cap xs) (n : Nat) : Pre (w.drewN n) g k E cap xs := h
theorem Pre.take (h : Pre w g k E cap xs) (n : Nat) : Pre w g k E cap (xs.take n) := by
  obtain ⟨cs, hh, h1, h2, h3, h4⟩ := h
  refine ⟨cs, hh, by simp; omega, h2, h3, ?_⟩
  rw [List.map_take, ← h4, List.take_take, List.length_take]
theorem Pre.cells (h : Pre w g k E cap xs) : Cells k w (some ⟨g, 0, none⟩) xs := fun _ => ⟨g, 0, rfl, fun j hj => by rw [Nat.zero_add]; exact h.cell j hj⟩
theorem Pre.sl (h : Pre w g k E cap xs) : Sl k w (some ⟨g, 0, none⟩) cap xs := ⟨h.le, h.max, h.cells⟩
end
theorem grownBy_set (w : World) (a : Addr) (v : Value) : w.grownBy (w.setCell a v) (some a.block) :=
  ⟨rfl, rfl, rfl, by simp, fun k _ hk => heap_setCell_other w a k v (fun e => hk (by simp [e]))⟩
theorem grownBy_trans {a b c : World} {row : Option Nat} (h : a.grownBy b row) (h' : b.grownBy c row) : a.grownBy c row :=
  ⟨h'.os.trans h.os, h'.tape.trans h.tape, h'.output.trans h.output, Nat.le_trans h.size h'.size, fun k hk hne => (h'.block k (Nat.lt_of_lt_of_le hk h.size) hne).trans (h.block k hk hne)⟩
theorem grownBy_drew {a b : World} {row : Option Nat} (h : a.grownBy b row) : a.grownBy b.drew row := ⟨h.os, h.tape, h.output, h.size, h.block⟩
theorem grownBy_drewN {a b : World} {row : Option Nat} (h : a.grownBy b row) (n : Nat) : a.grownBy (b.drewN n) row := ⟨h.os, h.tape, h.output, h.size, h.block⟩
theorem below_drewN {B : Nat} {a b : World} (h : Below B a b) (n : Nat) : Below B a (b.drewN n) := ⟨h.os, h.tape, h.output, h.size, h.block⟩
theorem Sl.grown {k : IntKind} {w w' : World} {a : Option Addr} {cap : Nat} {xs : List Int} {row : Option Nat} (h : Sl k w a cap xs) (hg : w.grownBy w' row) (hne : ∀ b off, a = some ⟨b, off, none⟩ → some b ≠ row) : Sl k w' a cap xs :=
  ⟨h.le, h.max, h.cells.same fun b off ha hlt => hg.block b hlt (hne b off ha)⟩

/-! ### make -/
theorem info1 {P : Program} {e : TypeId} {k : IntKind} {bytes : Nat} (h : (P.info? e).map (fun i => (i.zero, i.size, i.bytes)) = some (some (.int k 0), 1, bytes)) :
    ∃ i, P.info? e = some i ∧ i.zero = some (.int k 0) ∧ i.size = 1 ∧ i.bytes = bytes := info_parts h

theorem run_make_blk {P : Program} (w : World) (t e : TypeId) (k : IntKind) (bytes : Nat) (ht : P.underlying t = some (.slice e)) (hi : (P.info? e).map (fun i => (i.zero, i.size, i.bytes)) = some (some (.int k 0), 1, bytes))
    (n : Nat) (hb : bytes * n ≤ 281474976710656) (h63 : n ≤ 9223372036854775807) :
    ∃ w', (Instr.makeSlice t (.int .i64 n) (.int .i64 n)).run P w = .ok (.slice (some ⟨w.heap.size, 0, none⟩) n n) w' ∧ Blk w' w.heap.size k e (List.replicate n 0) ∧ w'.heap.size = w.heap.size + 1 ∧ Below w.heap.size w w' := by
  obtain ⟨i, hi0, hz, hs, hby⟩ := info1 hi
  have hb' : (bytes : Int) * (n : Int) ≤ 281474976710656 := by
    have h : ((bytes * n : Nat) : Int) ≤ 281474976710656 := by omega
    rwa [Int.natCast_mul] at h
  have hr := run_make (P := P) w t e i (.int k 0) ht hi0 hz .i64 .i64 n n (by omega) (by omega) (by rw [hby]; exact hb') (by omega)
  simp only [Int.toNat_natCast, hs, Nat.mul_one] at hr
  refine ⟨_, hr, ?_, by simp, (Below.refl _ _).alloc (Nat.le_refl _) _⟩
  rw [Blk, heap_alloc_new]
  congr 2
  apply Array.toList_inj.1
  rw [show Value.cells (.int k 0) = #[.int k 0] from rfl, toList_madeCells_one]
  simp

theorem wpList_make_blk {P : Program} (w : World) {ops : Array Oper} {rest : List Oper} {o : Oper} {a : Act} {Q : Exit → Act → World → Prop}
    (hg : o.guard = none) (l c : Operand) (t : TypeId) (hop : o.op = Op.makeSlice t l c) (e : TypeId) (k : IntKind) (bytes : Nat) (ht : P.underlying t = some (.slice e))
    (hi : (P.info? e).map (fun i => (i.zero, i.size, i.bytes)) = some (some (.int k 0), 1, bytes))
    (n : Nat) (L C : Int) (hl : a.eval l = .int .i64 L) (hc : a.eval c = .int .i64 C) (hL : L = n) (hC : C = n) (hb : bytes * n ≤ 281474976710656) (h63 : n ≤ 9223372036854775807)
    (hK : ∀ w', Blk w' w.heap.size k e (List.replicate n 0) → w'.heap.size = w.heap.size + 1 → Below w.heap.size w w' → wpList P ops Q rest (a.put o.dst (.slice (some ⟨w.heap.size, 0, none⟩) n n)) w') :
    wpList P ops Q (o :: rest) a w := by
  refine wpList_plain hg fun K hK' => ?_
  obtain ⟨w', hrun, r1, r2, r3⟩ := run_make_blk (P := P) w t e k bytes ht hi n hb h63
  subst hL hC
  unfold Oper.wp
  simp [execOp, hop, hl, hc, hrun, Result.andThen]
  exact hK' _ _ (hK w' r1 r2 r3)

/-! ### append -/
theorem run_append_new {P : Program} (w : World) (B : Nat) (t ty e : TypeId) (k : IntKind) (bytes : Nat) (ht : P.underlying t = some (.slice e)) (hi : (P.info? e).map (fun i => (i.zero, i.size, i.bytes)) = some (some (.int k 0), 1, bytes))
    (v : Value) (xs : List Int) (hv : New B k e w v xs) (a : Option Addr) (c : Nat) (ys : List Int) (hy : Cells k w a ys) (hm : xs.length + ys.length ≤ 9223372036854775807) (hbytes : (xs.length + ys.length) * bytes ≤ 140737488355328) (hB : B ≤ w.heap.size) :
    ∃ v' w', (Builtin.append_ #[t, t] ty #[v, .slice a ys.length c]).run P w = .ok v' w' ∧ New B k e w' v' (xs ++ ys) ∧ w.grownBy w' v.ownBlock ∧ (v'.ownBlock = v.ownBlock ∨ ∃ g, v'.ownBlock = some g ∧ w.heap.size ≤ g) := by
  obtain ⟨i, hi0, hz, hs, hby⟩ := info1 hi
  by_cases h0 : ys.length = 0
  · obtain rfl : ys = [] := List.eq_nil_of_length_eq_zero h0
    refine ⟨v, w, ?_, by simpa using hv, ⟨rfl, rfl, rfl, Nat.le_refl _, fun _ _ _ => rfl⟩, .inl rfl⟩
    have hf : (Builtin.firstCells 1 0 (.slice a 0 c)).run P w = .ok #[] w := by
      cases a with
      | none => simp [Builtin.firstCells]
      | some ad => exact run_firstCells_some w 1 0 ad 0 c [] (by simp) (by simp)
    rcases hv with ⟨rfl, rfl⟩ | ⟨g, cap, cs, rfl, _, _, hnc, _⟩
    · simp [Builtin.append_, run_underlying ht, sizeOf, typeInfo, hi0, hs, Builtin.lenOf, hf]
    · simp [Builtin.append_, run_underlying ht, sizeOf, typeInfo, hi0, hs, Builtin.lenOf, hf, hnc, storeCells]
  · obtain ⟨b, off, rfl, hc⟩ := hy (by omega)
    have hnews : ∀ (j : Nat) (u : Value), (ys.map (Value.int k))[j]? = some u → w.cell? ((⟨b, off, none⟩ : Addr).add j) = some u := by
      intro j u hu
      have hadd : (⟨b, off, none⟩ : Addr).add j = ⟨b, off + j, none⟩ := by unfold Addr.add; split <;> simp_all
      rw [List.getElem?_map, Option.map_eq_some_iff] at hu
      obtain ⟨y, hy1, rfl⟩ := hu
      obtain ⟨hj, hje⟩ := List.getElem?_eq_some_iff.1 hy1
      rw [hadd, hc j hj, nth_get _ _ hj, hje]
    have h1 : ∀ u ∈ ys.map (Value.int k), u.oneCell' = true := by
      intro u hu
      obtain ⟨y, _, rfl⟩ := List.mem_map.1 hu
      rfl
    have grown : ∀ (old : Nat), old < xs.length + ys.length → ∀ (row : Option Nat),
        New B k e (w.drew.alloc (.cells ((xs.map (Value.int k)).toArray ++ (ys.map (Value.int k)).toArray ++ Builtin.zeroCells (Value.cells (.int k 0)) (grownCap w (xs.length + ys.length) old e - (xs.length + ys.length))) e))
          (.slice (some ⟨w.heap.size, 0, none⟩) (xs.length + ys.length) (grownCap w (xs.length + ys.length) old e)) (xs ++ ys) ∧
        w.grownBy (w.drew.alloc (.cells ((xs.map (Value.int k)).toArray ++ (ys.map (Value.int k)).toArray ++ Builtin.zeroCells (Value.cells (.int k 0)) (grownCap w (xs.length + ys.length) old e - (xs.length + ys.length))) e)) row := by
      intro old ho row
      have hge := grownCap_ge w (xs.length + ys.length) old e
      have hcm : grownCap w (xs.length + ys.length) old e ≤ maxLen := grownCap_le_maxLen w (xs.length + ys.length) old e (by unfold maxLen; omega)
      unfold maxLen at hcm
      refine ⟨.inr ⟨w.heap.size, grownCap w (xs.length + ys.length) old e, _, by simp, hB, Go.heap_alloc_new w.drew _, by simp; omega, ?_, by omega, ?_⟩, ⟨rfl, rfl, rfl, by simp, fun j hj _ => Below.heap_alloc w.drew _ j hj⟩⟩
      · simp only [Array.size_append, List.size_toArray, List.length_map, size_zeroCells]
        rw [show (Value.cells (.int k 0)).size = 1 from rfl]
        omega
      · simp only [Array.toList_append, List.append_assoc, List.map_append, List.length_append]
        rw [← List.append_assoc]
        apply List.take_left'
        simp
    rcases hv with ⟨rfl, rfl⟩ | ⟨g, cap, cs, rfl, hbg, hh, hnc, hcs, hcm, htake⟩
    · have hr := run_append_nil (P := P) w t ty e i (.int k 0) ht hi0 hz ⟨b, off, none⟩ ys.length c (ys.map (Value.int k)) (by simp [hs]) hnews (by omega) (by simp at hm; omega) (by rw [hby]; simp at hbytes; omega)
      have hgr := grown 0 (by simp; omega) (Value.ownBlock (.slice none 0 0))
      simp only [List.length_nil, Nat.zero_add, List.map_nil, Array.empty_append, List.nil_append] at hgr ⊢
      exact ⟨_, _, hr, hgr.1, hgr.2, .inr ⟨_, rfl, Nat.le_refl _⟩⟩
    · by_cases hroom : xs.length + ys.length ≤ cap
      · have hr := run_append_room (P := P) w t ty e i ht hi0 g xs.length cap cs hh ⟨b, off, none⟩ ys.length c (ys.map (Value.int k)) (by simp [hs]) hnews h1 hroom (by simp [hs]; omega)
        refine ⟨_, _, hr, .inr ⟨g, cap, _, by simp, hbg, setRow_heap w g cs _ e _ hh, by simpa using hroom, ?_, hcm, ?_⟩, ⟨rfl, rfl, rfl, by simp, fun j _ hk => setRow_other w g j _ (fun ee => hk (by simp [Value.ownBlock, ee]))⟩, .inl rfl⟩
        · simp [hs]; omega
        · simp only [hs, Nat.mul_one, List.length_append, List.map_append]
          rw [htake]
          apply List.take_left'
          simp
      · have holds : ∀ (j : Nat) (u : Value), (xs.map (Value.int k))[j]? = some u → w.cell? ((⟨g, 0, none⟩ : Addr).add j) = some u := by
          intro j u hu
          have hadd : (⟨g, 0, none⟩ : Addr).add j = ⟨g, j, none⟩ := by unfold Addr.add; split <;> simp_all
          rw [hadd, cell_of_row w g j cs e (0, 0) hh]
          rw [← htake, List.getElem?_take] at hu
          split at hu
          · simpa using hu
          · cases hu
        have hr := run_append_grow (P := P) w t ty e i (.int k 0) ht hi0 hz ⟨g, 0, none⟩ xs.length cap (xs.map (Value.int k)) (by simp [hs]) holds ⟨b, off, none⟩ ys.length c (ys.map (Value.int k)) (by simp [hs]) hnews (by omega) (by omega) (growslice_fits (by omega) (by rw [hby]; exact hbytes))
        have hgr := grown cap (by omega) (Value.ownBlock (.slice (some ⟨g, 0, none⟩) xs.length cap))
        exact ⟨_, _, hr, hgr.1, hgr.2, .inr ⟨_, rfl, Nat.le_refl _⟩⟩

theorem wpList_append_new {P : Program} (w : World) {ops : Array Oper} {rest : List Oper} {o : Oper} {a : Act} {Q : Exit → Act → World → Prop} (hgd : o.guard = none) (s x : Operand) (t : TypeId)
    (ho : o.op = .call { callee := .builtin .append, args := #[s, x], argTypes := #[t, t] }) (B : Nat) (e : TypeId) (k : IntKind) (bytes : Nat) (ht : P.underlying t = some (.slice e))
    (hi : (P.info? e).map (fun i => (i.zero, i.size, i.bytes)) = some (some (.int k 0), 1, bytes)) (v : Value) (xs : List Int) (hs : a.eval s = v) (hv : New B k e w v xs)
    (ad : Option Addr) (c n : Nat) (ys : List Int) (hx : a.eval x = .slice ad n c) (hn : n = ys.length) (hy : Cells k w ad ys) (hm : xs.length + ys.length ≤ 9223372036854775807) (hbytes : (xs.length + ys.length) * bytes ≤ 140737488355328) (hB : B ≤ w.heap.size)
    (h : ∀ v' w', New B k e w' v' (xs ++ ys) → w.grownBy w' v.ownBlock → (v'.ownBlock = v.ownBlock ∨ ∃ g, v'.ownBlock = some g ∧ w.heap.size ≤ g) → wpList P ops Q rest (a.put o.dst v') w') : wpList P ops Q (o :: rest) a w := by
  subst hn
  refine wpList_plain hgd fun K hK => ?_
  obtain ⟨v', w', hr, h2, h3, h4⟩ := run_append_new (P := P) w B t o.type e k bytes ht hi v xs hv ad c ys hy hm hbytes hB
  unfold Oper.wp execOp
  simp only [ho, resolve, invoke, builtin, Sem.run_bind, Sem.run_pure, Result.andThen_ok, List.map_toArray, List.map_cons, List.map_nil, hs, hx, hr]
  exact hK _ _ (h v' w' h2 h3 h4)

theorem cells_one (k : IntKind) (w : World) (e : TypeId) (x : Int) (n : Nat) (hn : n = w.heap.size) : Cells k (w.alloc (.cells #[.int k x] e)) (some ⟨n, 0, none⟩) [x] := by
  subst hn
  intro _
  refine ⟨_, 0, rfl, fun j hj => ?_⟩
  have : j = 0 := by simp at hj; omega
  subst this
  simp [nth]

/-- Four bytes, and other few numbers, in one new block. -/
theorem cells_new (k : IntKind) (w : World) (e : TypeId) (xs : List Int) (cs : Array Value) (hcs : cs = (xs.map (Value.int k)).toArray) (n : Nat) (hn : n = w.heap.size) : Blk (w.alloc (.cells cs e)) n k e xs := by
  subst hn hcs
  exact Go.heap_alloc_new w _

end Go.Sg
