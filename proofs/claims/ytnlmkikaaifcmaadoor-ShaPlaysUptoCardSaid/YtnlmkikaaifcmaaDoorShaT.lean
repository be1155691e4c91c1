/- The state of a sum, and lists of words, in memory. -/
import Derived.Test.YtnlmkikaaifcmaaDoorShaS
import Derived.Test.YtnlmkikaaifcmaaDoorShaW
set_option linter.unusedVariables false
set_option linter.unusedSimpArgs false
namespace Go.Sg
open Go.RowKit

def v32 (v : BitVec 32) : Value := .int .u32 (wi v)
def v64 (v : BitVec 64) : Value := .int .u64 (wi v)
def stCells (h : Int) (S : List (BitVec 32)) (L : List (BitVec 64)) (r : List Int) (n : BitVec 64) : List Value :=
  .int .i64 h :: (S.map v32 ++ (L.map v64 ++ (r.map (Value.int .u8) ++ [v64 n])))

/-- A State at block g. -/
structure St (T : TypeId) (w : World) (g : Nat) (h : Int) (S : List (BitVec 32)) (L : List (BitVec 64)) (r : List Int) (n : BitVec 64) : Prop where
  rw : Rw w g T (stCells h S L r n)
  s8 : S.length = 8
  l8 : L.length = 8
  r128 : r.length = 128
  u8 : U8 r

theorem getElem?_cons_succ' (v : Value) (l : List Value) (i : Nat) : (v :: l)[1 + i]? = l[i]? := by rw [Nat.add_comm]; rfl
section
variable {T : TypeId} {w w' : World} {g : Nat} {h : Int} {S : List (BitVec 32)} {L : List (BitVec 64)} {r : List Int} {n : BitVec 64}
theorem St.len (st : St T w g h S L r n) : (stCells h S L r n).length = 146 := by
  simp [stCells, st.s8, st.l8, st.r128]
theorem St.c_h (st : St T w g h S L r n) : w.cell? ⟨g, 0, none⟩ = some (.int .i64 h) := st.rw.cell 0 rfl
theorem St.c_s (st : St T w g h S L r n) (i : Nat) (hi : i < 8) : w.cell? ⟨g, 1 + i, none⟩ = some (.int .u32 (wi (S.getD i 0))) := by
  refine st.rw.cell _ ?_
  rw [stCells, getElem?_cons_succ', List.getElem?_append_left (by simp [st.s8]; omega)]
  simp [st.s8, hi, v32]
theorem St.c_l (st : St T w g h S L r n) (i : Nat) (hi : i < 8) : w.cell? ⟨g, 9 + i, none⟩ = some (.int .u64 (wi (L.getD i 0))) := by
  refine st.rw.cell _ ?_
  rw [show 9 + i = 1 + (8 + i) by omega, stCells, getElem?_cons_succ', List.getElem?_append_right (by simp [st.s8]), List.length_map, st.s8, Nat.add_sub_cancel_left, List.getElem?_append_left (by simp [st.l8]; omega)]
  simp [st.l8, hi, v64]
theorem St.c_r (st : St T w g h S L r n) (i : Nat) (hi : i < 128) : w.cell? ⟨g, 17 + i, none⟩ = some (.int .u8 (nth r i)) := by
  refine st.rw.cell _ ?_
  rw [show 17 + i = 1 + (8 + (8 + i)) by omega, stCells, getElem?_cons_succ', List.getElem?_append_right (by simp [st.s8]), List.length_map, st.s8, Nat.add_sub_cancel_left, List.getElem?_append_right (by simp [st.l8]), List.length_map, st.l8, Nat.add_sub_cancel_left, List.getElem?_append_left (by simp [st.r128]; omega)]
  simp [st.r128, hi, nth]
theorem St.c_n (st : St T w g h S L r n) : w.cell? ⟨g, 145, none⟩ = some (.int .u64 (wi n)) := by
  refine st.rw.cell _ ?_
  rw [show 145 = 1 + (8 + (8 + 128)) by omega, stCells, getElem?_cons_succ', List.getElem?_append_right (by simp [st.s8]), List.length_map, st.s8, Nat.add_sub_cancel_left, List.getElem?_append_right (by simp [st.l8]), List.length_map, st.l8, Nat.add_sub_cancel_left, List.getElem?_append_right (by simp [st.r128])]
  simp [st.r128, v64]
theorem St.free (st : St T w g h S L r n) (i : Nat) : w.frozen? ⟨g, i, none⟩ = false := st.rw.free i
theorem St.lt (st : St T w g h S L r n) : g < w.heap.size := st.rw.lt
theorem St.keep (st : St T w g h S L r n) (hb : Below w.heap.size w w') : St T w' g h S L r n := ⟨st.rw.keep hb, st.s8, st.l8, st.r128, st.u8⟩
theorem St.grown {row : Option Nat} (st : St T w g h S L r n) (hb : w.grownBy w' row) (hg : some g ≠ row) : St T w' g h S L r n := ⟨st.rw.grown hb hg, st.s8, st.l8, st.r128, st.u8⟩
theorem St.drewN (st : St T w g h S L r n) (k : Nat) : St T (w.drewN k) g h S L r n := ⟨st.rw.drewN k, st.s8, st.l8, st.r128, st.u8⟩
theorem St.drew (st : St T w g h S L r n) : St T w.drew g h S L r n := ⟨st.rw, st.s8, st.l8, st.r128, st.u8⟩
theorem St.alloc (st : St T w g h S L r n) (o : Obj) : St T (w.alloc o) g h S L r n := ⟨st.rw.alloc o, st.s8, st.l8, st.r128, st.u8⟩
theorem St.other (st : St T w g h S L r n) {b : Nat} (hb : g ≠ b) (i : Nat) (v : Value) : St T (w.setCell ⟨b, i, none⟩ v) g h S L r n := ⟨st.rw.other hb i v, st.s8, st.l8, st.r128, st.u8⟩
theorem St.set_s (st : St T w g h S L r n) (i : Nat) (hi : i < 8) (v : BitVec 32) : St T (w.setCell ⟨g, 1 + i, none⟩ (.int .u32 (wi v))) g h (S.set i v) L r n := by
  refine ⟨?_, by simp [st.s8], st.l8, st.r128, st.u8⟩
  have := st.rw.set (1 + i) (v32 v)
  rw [stCells, Nat.add_comm 1 i, List.set_cons_succ, List.set_append_left _ _ (by simp [st.s8]; omega), ← List.map_set] at this
  rw [Nat.add_comm]; exact this
theorem St.set_l (st : St T w g h S L r n) (i : Nat) (hi : i < 8) (v : BitVec 64) : St T (w.setCell ⟨g, 9 + i, none⟩ (.int .u64 (wi v))) g h S (L.set i v) r n := by
  refine ⟨?_, st.s8, by simp [st.l8], st.r128, st.u8⟩
  have := st.rw.set (9 + i) (v64 v)
  rw [show 9 + i = (8 + i) + 1 by omega, stCells, List.set_cons_succ, List.set_append_right _ _ (by simp [st.s8]), List.length_map, st.s8, Nat.add_sub_cancel_left, List.set_append_left _ _ (by simp [st.l8]; omega), ← List.map_set] at this
  rw [show 9 + i = (8 + i) + 1 by omega]; exact this
theorem St.set_n (st : St T w g h S L r n) (v : BitVec 64) : St T (w.setCell ⟨g, 145, none⟩ (.int .u64 (wi v))) g h S L r v := by
  refine ⟨?_, st.s8, st.l8, st.r128, st.u8⟩
  have := st.rw.set 145 (v64 v)
  rw [show 145 = (8 + (8 + 128)) + 1 by omega, stCells, List.set_cons_succ, List.set_append_right _ _ (by simp [st.s8]), List.length_map, st.s8, Nat.add_sub_cancel_left, List.set_append_right _ _ (by simp [st.l8]), List.length_map, st.l8, show 136 - 8 = 128 from rfl, List.set_append_right _ _ (by simp [st.r128]), List.length_map, st.r128] at this
  exact this
end

/-- A list of words at block g. -/
def Wds {m : Nat} (k : IntKind) (w : World) (g : Nat) (E : TypeId) (W : List (BitVec m)) : Prop := Rw w g E (W.map fun v => .int k (wi v))
section
variable {m : Nat} {k : IntKind} {w w' : World} {g : Nat} {E : TypeId} {W : List (BitVec m)}
theorem Wds.cell (h : Wds k w g E W) (i : Nat) (hi : i < W.length) : w.cell? ⟨g, i, none⟩ = some (.int k (wi (W.getD i 0))) := Rw.cell h i (by simp [hi])
theorem Wds.free (h : Wds k w g E W) (i : Nat) : w.frozen? ⟨g, i, none⟩ = false := Rw.free h i
theorem Wds.set (h : Wds k w g E W) (i : Nat) (v : BitVec m) : Wds k (w.setCell ⟨g, i, none⟩ (.int k (wi v))) g E (W.set i v) := by
  have := Rw.set h i (.int k (wi v))
  rw [Wds, List.map_set]; exact this
theorem Wds.other (h : Wds k w g E W) {b : Nat} (hb : g ≠ b) (i : Nat) (v : Value) : Wds k (w.setCell ⟨b, i, none⟩ v) g E W := Rw.other h hb i v
theorem Wds.drewN (h : Wds k w g E W) (n : Nat) : Wds k (w.drewN n) g E W := h
theorem Wds.drew (h : Wds k w g E W) : Wds k w.drew g E W := h
theorem Wds.lt (h : Wds k w g E W) : g < w.heap.size := Rw.lt h
end
theorem take_set_next {α : Type} (W : List α) (k : Nat) (v : α) (h : k < W.length) : (W.set k v).take (k + 1) = W.take k ++ [v] := by
  rw [List.take_succ_eq_append_getElem (by simpa using h), List.take_set_of_le (Nat.le_refl _)]; simp
theorem getD_take {α : Type} (W : List α) (n i : Nat) (d : α) (h : i < n) : (W.take n).getD i d = W.getD i d := by simp [h]
theorem words32_next (bs : List Int) (p k : Nat) : words32 bs p (k + 1) = words32 bs p k ++ [word32 bs (p + 4 * k)] := by simp [words32, List.range_succ]
theorem words64_next (bs : List Int) (p k : Nat) : words64 bs p (k + 1) = words64 bs p k ++ [part64 bs (p + 8 * k) 8] := by simp [words64, List.range_succ]
theorem words32_len (bs : List Int) (p k : Nat) : (words32 bs p k).length = k := by simp [words32]
theorem words64_len (bs : List Int) (p k : Nat) : (words64 bs p k).length = k := by simp [words64]
theorem sched32_len (m : List (BitVec 32)) (k : Nat) : (sched32 m k).length = m.length + k := by
  induction k with
  | zero => rfl
  | succ k ih => simp [sched32, ih]; omega
theorem sched64_len (m : List (BitVec 64)) (k : Nat) : (sched64 m k).length = m.length + k := by
  induction k with
  | zero => rfl
  | succ k ih => simp [sched64, ih]; omega

/-- The tables of package sha, as the program lays them: blocks G0.. -/
structure Tabs (k2 k5 s2 s3 s5 : Nat) (w : World) : Prop where
  k256 : ∀ i, i < 64 → w.cell? ⟨k2, i, none⟩ = some (.int .u32 (wi (K256.getD i 0)))
  k512 : ∀ i, i < 80 → w.cell? ⟨k5, i, none⟩ = some (.int .u64 (wi (K512.getD i 0)))
  b256 : w.rangeAt s2 0 (start256.list.map v32)
  b384 : w.rangeAt s3 0 (start384.list.map v64)
  b512 : w.rangeAt s5 0 (start512.list.map v64)
theorem Tabs.keep {k2 k5 s2 s3 s5 : Nat} {w w' : World} (h : Tabs k2 k5 s2 s3 s5 w) (hb : ∀ p : Addr, p.block < w.heap.size → w'.cell? p = w.cell? p) : Tabs k2 k5 s2 s3 s5 w' :=
  ⟨fun i hi => (hb _ (World.block_lt_of_cell? w _ (h.k256 i hi))).trans (h.k256 i hi), fun i hi => (hb _ (World.block_lt_of_cell? w _ (h.k512 i hi))).trans (h.k512 i hi),
   fun j v hv => (hb _ (World.block_lt_of_cell? w _ (h.b256 j v hv))).trans (h.b256 j v hv), fun j v hv => (hb _ (World.block_lt_of_cell? w _ (h.b384 j v hv))).trans (h.b384 j v hv),
   fun j v hv => (hb _ (World.block_lt_of_cell? w _ (h.b512 j v hv))).trans (h.b512 j v hv)⟩

/-- Behind all tables. -/
def top5 (k2 k5 s2 s3 s5 : Nat) : Nat := max (max (max k2 k5) (max s2 s3)) s5 + 1
theorem Tabs.top {k2 k5 s2 s3 s5 : Nat} {w : World} (h : Tabs k2 k5 s2 s3 s5 w) : top5 k2 k5 s2 s3 s5 ≤ w.heap.size := by
  have a := World.block_lt_of_cell? w _ (h.k256 0 (by omega))
  have b := World.block_lt_of_cell? w _ (h.k512 0 (by omega))
  have c := World.block_lt_of_cell? w _ (h.b256 0 _ rfl)
  have d := World.block_lt_of_cell? w _ (h.b384 0 _ rfl)
  have e := World.block_lt_of_cell? w _ (h.b512 0 _ rfl)
  simp only at a b c d e
  unfold top5
  omega
theorem Tabs.grown {k2 k5 s2 s3 s5 : Nat} {w w' : World} {g : Nat} (h : Tabs k2 k5 s2 s3 s5 w) (hb : w.grownBy w' (some g)) (hg : top5 k2 k5 s2 s3 s5 ≤ g) : Tabs k2 k5 s2 s3 s5 w' := by
  have t := h.top
  have q : ∀ b i v, b < top5 k2 k5 s2 s3 s5 → w.cell? ⟨b, i, none⟩ = some v → w'.cell? ⟨b, i, none⟩ = some v := fun b i v hlt hv => by
    rw [World.cell?_of_block (w := w) (hb.block b (by omega) (fun e => by simp at e; omega))]; exact hv
  unfold top5 at q
  exact ⟨fun i hi => q _ _ _ (by omega) (h.k256 i hi), fun i hi => q _ _ _ (by omega) (h.k512 i hi), fun j v hv => q _ _ _ (by omega) (h.b256 j v hv), fun j v hv => q _ _ _ (by omega) (h.b384 j v hv), fun j v hv => q _ _ _ (by omega) (h.b512 j v hv)⟩
theorem Tabs.below {k2 k5 s2 s3 s5 : Nat} {w w' : World} (h : Tabs k2 k5 s2 s3 s5 w) (hb : Below w.heap.size w w') : Tabs k2 k5 s2 s3 s5 w' := h.keep fun p hp => hb.cell hp
/-! ### only one block has turned, and what is new -/
theorem only_drewN {a w : World} {row : Option Nat} (h : a.grownBy w row) (n : Nat) : a.grownBy (w.drewN n) row := ⟨h.os, h.tape, h.output, h.size, h.block⟩
theorem only_drew {a w : World} {row : Option Nat} (h : a.grownBy w row) : a.grownBy w.drew row := ⟨h.os, h.tape, h.output, h.size, h.block⟩
theorem only_alloc {a w : World} {row : Option Nat} (h : a.grownBy w row) (o : Obj) : a.grownBy (w.alloc o) row :=
  ⟨h.os, h.tape, h.output, Nat.le_trans h.size (by simp), fun i hi hne => (Below.heap_alloc w o i (Nat.lt_of_lt_of_le hi h.size)).trans (h.block i hi hne)⟩
theorem only_setCell {a w : World} {g : Nat} (h : a.grownBy w (some g)) {p : Addr} (hp : p.block = g ∨ a.heap.size ≤ p.block) (u : Value) : a.grownBy (w.setCell p u) (some g) :=
  ⟨h.os, h.tape, h.output, by simpa [World.setCell] using h.size, fun i hi hne => (Below.heap_setCell w p u i (by
    rintro rfl
    rcases hp with hp | hp
    · exact hne (by rw [hp])
    · omega)).trans (h.block i hi hne)⟩
theorem only_of_below {a w : World} (h : Below a.heap.size a w) (row : Option Nat) : a.grownBy w row := ⟨h.os, h.tape, h.output, h.size, fun i hi _ => h.block i hi⟩
theorem only_trans {a b c : World} {row : Option Nat} (h : a.grownBy b row) (k : b.grownBy c row) : a.grownBy c row :=
  ⟨k.os.trans h.os, k.tape.trans h.tape, k.output.trans h.output, Nat.le_trans h.size k.size, fun i hi hne => (k.block i (Nat.lt_of_lt_of_le hi h.size) hne).trans (h.block i hi hne)⟩
theorem only_below {a b c : World} {row : Option Nat} (h : a.grownBy b row) (k : Below b.heap.size b c) : a.grownBy c row := only_trans h (only_of_below k row)
theorem only_then {a b c : World} {g : Nat} (h : a.grownBy b (some g)) {g' : Nat} (k : b.grownBy c (some g')) (hg : g' = g ∨ a.heap.size ≤ g') : a.grownBy c (some g) :=
  ⟨k.os.trans h.os, k.tape.trans h.tape, k.output.trans h.output, Nat.le_trans h.size k.size, fun i hi hne => (k.block i (Nat.lt_of_lt_of_le hi h.size) (fun e => by
    rcases hg with rfl | hg
    · exact hne e
    · simp at e; omega)).trans (h.block i hi hne)⟩
theorem below_then {a b c : World} {B : Nat} (h : Below B a b) {g : Nat} (k : b.grownBy c (some g)) (hg : B ≤ g) (hB : B ≤ b.heap.size) : Below B a c := h.grown k hB (by simp; omega)
end Go.Sg
