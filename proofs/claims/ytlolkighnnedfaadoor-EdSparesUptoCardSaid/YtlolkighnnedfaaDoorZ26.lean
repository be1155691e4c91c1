import Derived.Test.YtlolkighnnedfaaDoorZ16
import Derived.Test.YtlolkighnnedfaaDoorZ25
/- The state of a sum, and lists of words, in memory. -/
set_option linter.unusedVariables false
set_option linter.unusedSimpArgs false
namespace Go.Sg
open Go.RowKit

def v32 (v : BitVec 32) : Value := .int .u32 (wi v)
def v64 (v : BitVec 64) : Value := .int .u64 (wi v)
def stCells (h : Int) (S : List (BitVec 32)) (L : List (BitVec 64)) (r : List Int) (n : BitVec 64) : List Value :=
  .int .i64 h :: (S.map v32 ++ (L.map v64 ++ (r.map (Value.int .u8) ++ [v64 n])))

/-- A State at block g. -/
structure St (T : TypeId) (w : World) (g : Nat) (h : Int) (S : List (BitVec 32)) (L : List (BitVec 64)) (r : List Int) (n : BitVec 64) : Prop where
  rw : Rw w g T (stCells h S L r n)
  s8 : S.length = 8
  l8 : L.length = 8
  r128 : r.length = 128
  u8 : U8 r

theorem getElem?_cons_succ' (v : Value) (l : List Value) (i : Nat) : (v :: l)[1 + i]? = l[i]? := by rw [Nat.add_comm]; rfl
section
variable {T : TypeId} {w w' : World} {g : Nat} {h : Int} {S : List (BitVec 32)} {L : List (BitVec 64)} {r : List Int} {n : BitVec 64}
theorem St.len (st : St T w g h S L r n) : (stCells h S L r n).length = 146 := by
  simp [stCells, st.s8, st.l8, st.r128]
theorem St.c_h (st : St T w g h S L r n) : w.cell? ⟨g, 0, none⟩ = some (.int .i64 h) := st.rw.cell 0 rfl
theorem St.c_s (st : St T w g h S L r n) (i : Nat) (hi : i < 8) : w.cell? ⟨g, 1 + i, none⟩ = some (.int .u32 (wi (S.getD i 0))) := by
  refine st.rw.cell _ ?_
  rw [stCells, getElem?_cons_succ', List.getElem?_append_left (by simp [st.s8]; omega)]
  simp [st.s8, hi, v32]
theorem St.c_l (st : St T w g h S L r n) (i : Nat) (hi : i < 8) : w.cell? ⟨g, 9 + i, none⟩ = some (.int .u64 (wi (L.getD i 0))) := by
  refine st.rw.cell _ ?_
  rw [show 9 + i = 1 + (8 + i) by omega, stCells, getElem?_cons_succ', List.getElem?_append_right (by simp [st.s8]), List.length_map, st.s8, Nat.add_sub_cancel_left, List.getElem?_append_left (by simp [st.l8]; omega)]
  simp [st.l8, hi, v64]
theorem St.c_r (st : St T w g h S L r n) (i : Nat) (hi : i < 128) : w.cell? ⟨g, 17 + i, none⟩ = some (.int .u8 (nth r i)) := by
  refine st.rw.cell _ ?_
  rw [show 17 + i = 1 + (8 + (8 + i)) by omega, stCells, getElem?_cons_succ', List.getElem?_append_right (by simp [st.s8]), List.length_map, st.s8, Nat.add_sub_cancel_left, List.getElem?_append_right (by simp [st.l8]), List.length_map, st.l8, Nat.add_sub_cancel_left, List.getElem?_append_left (by simp [st.r128]; omega)]
  simp [st.r128, hi, nth]
theorem St.c_n (st : St T w g h S L r n) : w.cell? ⟨g, 145, none⟩ = some (.int .u64 (wi n)) := by
  refine st.rw.cell _ ?_
  rw [show 145 = 1 + (8 + (8 + 128)) by omega, stCells, getElem?_cons_succ', List.getElem?_append_right (by simp [st.s8]), List.length_map, st.s8, Nat.add_sub_cancel_left, List.getElem?_append_right (by simp [st.l8]), List.length_map, st.l8, Nat.add_sub_cancel_left, List.getElem?_append_right (by simp [st.r128])]
  simp [st.r128, v64]
theorem St.free (st : St T w g h S L r n) (i : Nat) : w.frozen? ⟨g, i, none⟩ = false := st.rw.free i
theorem St.lt (st : St T w g h S L r n) : g < w.heap.size := st.rw.lt
theorem St.keep (st : St T w g h S L r n) (hb : Below w.heap.size w w') : St T w' g h S L r n := ⟨st.rw.keep hb, st.s8, st.l8, st.r128, st.u8⟩
theorem St.grown {row : Option Nat} (st : St T w g h S L r n) (hb : w.grownBy w' row) (hg : some g ≠ row) : St T w' g h S L r n := ⟨st.rw.grown hb hg, st.s8, st.l8, st.r128, st.u8⟩
theorem St.drewN (st : St T w g h S L r n) (k : Nat) : St T (w.drewN k) g h S L r n := ⟨st.rw.drewN k, st.s8, st.l8, st.r128, st.u8⟩
theorem St.drew (st : St T w g h S L r n) : St T w.drew g h S L r n := ⟨st.rw, st.s8, st.l8, st.r128, st.u8⟩
theorem St.alloc (st : St T w g h S L r n) (o : Obj) : St T (w.alloc o) g h S L r n := ⟨st.rw.alloc o, st.s8, st.l8, st.r128, st.u8⟩
theorem St.other (st : St T w g h S L r n) {b : Nat} (hb : g ≠ b) (i : Nat) (v : Value) : St T (w.setCell ⟨b, i, none⟩ v) g h S L r n := ⟨st.rw.other hb i v, st.s8, st.l8, st.r128, st.u8⟩
theorem St.set_s (st : St T w g h S L r n) (i : Nat) (hi : i < 8) (v : BitVec 32) : St T (w.setCell ⟨g, 1 + i, none⟩ (.int .u32 (wi v))) g h (S.set i v) L r n := by
  refine ⟨?_, by simp [st.s8], st.l8, st.r128, st.u8⟩
  have := st.rw.set (1 + i) (v32 v)
  rw [stCells, Nat.add_comm 1 i, List.set_cons_succ, List.set_append_left _ _ (by simp [st.s8]; omega), ← List.map_set] at this
  rw [Nat.add_comm]; exact this
theorem St.set_l (st : St T w g h S L r n) (i : Nat) (hi : i < 8) (v : BitVec 64) : St T (w.setCell ⟨g, 9 + i, none⟩ (.int .u64 (wi v))) g h S (L.set i v) r n := by
  refine ⟨?_, st.s8, by simp [st.l8], st.r128, st.u8⟩
  have := st.rw.set (9 + i) (v64 v)
  rw [show 9 + i = (8 + i) + 1 by omega, stCells, List.set_cons_succ, List.set_append_right _ _ (by simp [st.s8]), List.length_map, st.s8, Nat.add_sub_cancel_left, List.set_append_left _ _ (by simp [st.l8]; omega), ← List.map_set] at this
  rw [show 9 + i = (8 + i) + 1 by omega]; exact this
theorem St.set_n (st : St T w g h S L r n) (v : BitVec 64) : St T (w.setCell ⟨g, 145, none⟩ (.int .u64 (wi v))) g h S L r v := by
  refine ⟨?_, st.s8, st.l8, st.r128, st.u8⟩
  have := st.rw.set 145 (v64 v)
  rw [show 145 = (8 + (8 + 128)) + 1 by omega, stCells, List.set_cons_succ, List.set_append_right _ _ (by simp [st.s8]), List.length_map, st.s8, Nat.add_sub_cancel_left, List.set_append_right _ _ (by simp [st.l8]), List.length_map, st.l8, show 136 - 8 = 128 from rfl, List.set_append_right _ _ (by simp [st.r128]), List.length_map, st.r128] at this
  exact this
end

/-- A list of words at block g. -/
def Wds {m : Nat} (k : IntKind) (w : World) (g : Nat) (E : TypeId) (W : List (BitVec m)) : Prop := Rw w g E (W.map fun v => .int k (wi v))
section
variable {m : Nat} {k : IntKind} {w w' : World} {g : Nat} {E : TypeId} {W : List (BitVec m)}
theorem Wds.cell (h : Wds k w g E W) (i : Nat) (hi : i < W.length) : w.cell? ⟨g, i, none⟩ = some (.int k (wi (W.getD i 0))) := Rw.cell h i (by simp [hi])
theorem Wds.free (h : Wds k w g E W) (i : Nat) : w.frozen? ⟨g, i, none⟩ = false := Rw.free h i
theorem Wds.set (h : Wds k w g E W) (i : Nat) (v : BitVec m) : Wds k (w.setCell ⟨g, i, none⟩ (.int k (wi v))) g E (W.set i v) := by
  have := Rw.set h i (.int k (wi v))
  rw [Wds, List.map_set]; exact this
theorem Wds.other (h : Wds k w g E W) {b : Nat} (hb : g ≠ b) (i : Nat) (v : Value) : Wds k (w.setCell ⟨b, i, none⟩ v) g E W := Rw.other h hb i v
theorem Wds.drewN (h : Wds k w g E W) (n : Nat) : Wds k (w.drewN n) g E W := h
theorem Wds.drew (h : Wds k w g E W) : Wds k w.drew g E W := h
theorem Wds.lt (h : Wds k w g E W) : g < w.heap.size := Rw.lt h
end
theorem take_set_next {α : Type} (W : List α) (k : Nat) (v : α) (h : k < W.length) : (W.set k v).take (k + 1) = W.take k ++ [v] := by
  rw [List.take_succ_eq_append_getElem (by simpa using h), List.take_set_of_le (Nat.le_refl _)]; simp
theorem getD_take {α : Type} (W : List α) (n i : Nat) (d : α) (h : i < n) : (W.take n).getD i d = W.getD i d := by simp [h]
theorem words32_next (bs : List Int) (p k : Nat) : words32 bs p (k + 1) = words32 bs p k ++ [word32 bs (p + 4 * k)] := by simp [words32, List.range_succ]
theorem words64_next (bs : List Int) (p k : Nat) : words64 bs p (k + 1) = words64 bs p k ++ [part64 bs (p + 8 * k) 8] := by simp [words64, List.range_succ]
theorem words32_len (bs : List Int) (p k : Nat) : (words32 bs p k).length = k := by simp [words32]
theorem words64_len (bs : List Int) (p k : Nat) : (words64 bs p k).length = k := by simp [words64]
theorem sched32_len (m : List (BitVec 32)) (k : Nat) : (sched32 m k).length = m.length + k := by
  induction k with
  | zero => rfl
  | succ k ih => simp [sched32, ih]; omega
theorem sched64_len (m : List (BitVec 64)) (k : Nat) : (sched64 m k).length = m.length + k := by
  induction k with
  | zero => rfl
  | succ k ih => simp [sched64, ih]; omega

/-- The tables of package sha, as the program lays them: blocks G0.. -/
structure Tabs (k2 k5 s2 s3 s5 : Nat) (w : World) : Prop where
  k256 : ∀ i, i < 64 → w.cell? ⟨k2, i, none⟩ = some (.int .u32 (wi (K256.getD i 0)))
  k512 : ∀ i, i < 80 → w.cell? ⟨k5, i, none⟩ = some (.int .u64 (wi (K512.getD i 0)))
  b256 : w.rangeAt s2 0 (start256.list.map v32)
  b384 : w.rangeAt s3 0 (start384.list.map v64)
  b512 : w.rangeAt s5 0 (start512.list.map v64)
theorem Tabs.keep {k2 k5 s2 s3 s5 : Nat} {w w' : World} (h : Tabs k2 k5 s2 s3 s5 w) (hb : ∀ p : Addr, p.block < w.heap.size → w'.cell? p = w.cell? p) : Tabs k2 k5 s2 s3 s5 w' :=
  ⟨fun i hi => (hb _ (World.block_lt_of_cell? w _ (h.k256 i hi))).trans (h.k256 i hi), fun i hi => (hb _ (World.block_lt_of_cell? w _ (h.k512 i hi))).trans (h.k512 i hi),
   fun j v hv => (hb _ (World.block_lt_of_cell? w _ (h.b256 j v hv))).trans (h.b256 j v hv), fun j v hv => (hb _ (World.block_lt_of_cell? w _ (h.b384 j v hv))).trans (h.b384 j v hv),
   fun j v hv => (hb _ (World.block_lt_of_cell? w _ (h.b512 j v hv))).trans (h.b512 j v hv)⟩

/-- Behind all tables. -/
def top5 (k2 k5 s2 s3 s5 : Nat) : Nat := max (max (max k2 k5) (max s2 s3)) s5 + 1
theorem Tabs.top {k2 k5 s2 s3 s5 : Nat} {w : World} (h : Tabs k2 k5 s2 s3 s5 w) : top5 k2 k5 s2 s3 s5 ≤ w.heap.size := by
  have a := World.block_lt_of_cell? w _ (h.k256 0 (by omega))
  have b := World.block_lt_of_cell? w _ (h.k512 0 (by omega))
  have c := World.block_lt_of_cell? w _ (h.b256 0 _ rfl)
  have d := World.block_lt_of_cell? w _ (h.b384 0 _ rfl)
  have e := World.block_lt_of_cell? w _ (h.b512 0 _ rfl)
  simp only at a b c d e
  unfold top5
  omega
theorem Tabs.grown {k2 k5 s2 s3 s5 : Nat} {w w' : World} {g : Nat} (h : Tabs k2 k5 s2 s3 s5 w) (hb : w.grownBy w' (some g)) (hg : top5 k2 k5 s2 s3 s5 ≤ g) : Tabs k2 k5 s2 s3 s5 w' := by
  have t := h.top
  have q : ∀ b i v, b < top5 k2 k5 s2 s3 s5 → w.cell? ⟨b, i, none⟩ = some v → w'.cell? ⟨b, i, none⟩ = some v := fun b i v hlt hv => by
    rw [World.cell?_of_block (w := w) (hb.block b (by omega) (fun e => by simp at e; omega))]; exact hv
  unfold top5 at q
  exact ⟨fun i hi => q _ _ _ (by omega) (h.k256 i hi), fun i hi => q _ _ _ (by omega) (h.k512 i hi), fun j v hv => q _ _ _ (by omega) (h.b256 j v hv), fun j v hv => q _ _ _ (by omega) (h.b384 j v hv), fun j v hv => q _ _ _ (by omega) (h.b512 j v hv)⟩
theorem Tabs.below {k2 k5 s2 s3 s5 : Nat} {w w' : World} (h : Tabs k2 k5 s2 s3 s5 w) (hb : Below w.heap.size w w') : Tabs k2 k5 s2 s3 s5 w' := h.keep fun p hp => hb.cell hp
/-! ### only one block has turned, and what is new -/
theorem only_drewN {a w : World} {row : Option Nat} (h : a.grownBy w row) (n : Nat) : a.grownBy (w.drewN n) row := ⟨h.os, h.tape, h.output, h.size, h.block⟩
theorem only_drew {a w : World} {row : Option Nat} (h : a.grownBy w row) : a.grownBy w.drew row := ⟨h.os, h.tape, h.output, h.size, h.block⟩
theorem only_alloc {a w : World} {row : Option Nat} (h : a.grownBy w row) (o : Obj) : a.grownBy (w.alloc o) row :=
  ⟨h.os, h.tape, h.output, Nat.le_trans h.size (by simp), fun i hi hne => (Below.heap_alloc w o i (Nat.lt_of_lt_of_le hi h.size)).trans (h.block i hi hne)⟩
theorem only_setCell {a w : World} {g : Nat} (h : a.grownBy w (some g)) {p : Addr} (hp : p.block = g ∨ a.heap.size ≤ p.block) (u : Value) : a.grownBy (w.setCell p u) (some g) :=
  ⟨h.os, h.tape, h.output, by simpa [World.setCell] using h.size, fun i hi hne => (Below.heap_setCell w p u i (by
    rintro rfl
    rcases hp with hp | hp
    · exact hne (by rw [hp])
    · omega)).trans (h.block i hi hne)⟩
theorem only_of_below {a w : World} (h : Below a.heap.size a w) (row : Option Nat) : a.grownBy w row := ⟨h.os, h.tape, h.output, h.size, fun i hi _ => h.block i hi⟩
theorem only_trans {a b c : World} {row : Option Nat} (h : a.grownBy b row) (k : b.grownBy c row) : a.grownBy c row :=
  ⟨k.os.trans h.os, k.tape.trans h.tape, k.output.trans h.output, Nat.le_trans h.size k.size, fun i hi hne => (k.block i (Nat.lt_of_lt_of_le hi h.size) hne).trans (h.block i hi hne)⟩
theorem only_below {a b c : World} {row : Option Nat} (h : a.grownBy b row) (k : Below b.heap.size b c) : a.grownBy c row := only_trans h (only_of_below k row)
theorem only_then {a b c : World} {g : Nat} (h : a.grownBy b (some g)) {g' : Nat} (k : b.grownBy c (some g')) (hg : g' = g ∨ a.heap.size ≤ g') : a.grownBy c (some g) :=
  ⟨k.os.trans h.os, k.tape.trans h.tape, k.output.trans h.output, Nat.le_trans h.size k.size, fun i hi hne => (k.block i (Nat.lt_of_lt_of_le hi h.size) (fun e => by
    rcases hg with rfl | hg
    · exact hne e
    · simp at e; omega)).trans (h.block i hi hne)⟩
theorem below_then {a b c : World} {B : Nat} (h : Below B a b) {g : Nat} (k : b.grownBy c (some g)) (hg : B ≤ g) (hB : B ≤ b.heap.size) : Below B a c := h.grown k hB (by simp; omega)
end Go.Sg
/- What a State has taken in: plain lists. -/
set_option linter.unusedVariables false
set_option linter.unusedSimpArgs false
namespace Go.Sg

theorem word32_congr {a b : List Int} {p q : Nat} (h : ∀ i, i < 4 → nth a (p + i) = nth b (q + i)) : word32 a p = word32 b q := by
  have h0 := h 0 (by omega)
  have h1 := h 1 (by omega)
  have h2 := h 2 (by omega)
  have h3 := h 3 (by omega)
  rw [Nat.add_zero, Nat.add_zero] at h0
  rw [word32, word32, h0, h1, h2, h3]
theorem part64_congr {a b : List Int} {p q : Nat} (n : Nat) (h : ∀ i, i < n → nth a (p + i) = nth b (q + i)) : part64 a p n = part64 b q n := by
  induction n with
  | zero => rfl
  | succ n ih => rw [part64, part64, ih fun i hi => h i (by omega), h n (by omega)]
theorem words32_congr {a b : List Int} {p q : Nat} (h : ∀ i, i < 64 → nth a (p + i) = nth b (q + i)) : words32 a p 16 = words32 b q 16 := by
  unfold words32
  apply List.map_congr_left
  intro i hi
  rw [List.mem_range] at hi
  exact word32_congr fun j hj => by rw [Nat.add_assoc, Nat.add_assoc]; exact h _ (by omega)
theorem words64_congr {a b : List Int} {p q : Nat} (h : ∀ i, i < 128 → nth a (p + i) = nth b (q + i)) : words64 a p 16 = words64 b q 16 := by
  unfold words64
  apply List.map_congr_left
  intro i hi
  rw [List.mem_range] at hi
  exact part64_congr 8 fun j hj => by rw [Nat.add_assoc, Nat.add_assoc]; exact h _ (by omega)
theorem block32_congr {K : List (BitVec 32)} {s : S8 32} {a b : List Int} {p q : Nat} (h : ∀ i, i < 64 → nth a (p + i) = nth b (q + i)) : block32 K s a p = block32 K s b q := by
  rw [block32, block32, words32_congr h]
theorem block64_congr {K : List (BitVec 64)} {s : S8 64} {a b : List Int} {p q : Nat} (h : ∀ i, i < 128 → nth a (p + i) = nth b (q + i)) : block64 K s a p = block64 K s b q := by
  rw [block64, block64, words64_congr h]
theorem blocks32_congr {K : List (BitVec 32)} {s : S8 32} {a b : List Int} (k : Nat) (h : ∀ i, i < 64 * k → nth a i = nth b i) : blocks32 K s a k = blocks32 K s b k := by
  induction k with
  | zero => rfl
  | succ k ih => rw [blocks32, blocks32, ih fun i hi => h i (by omega)]; exact block32_congr fun i hi => h _ (by omega)
theorem blocks64_congr {K : List (BitVec 64)} {s : S8 64} {a b : List Int} (k : Nat) (h : ∀ i, i < 128 * k → nth a i = nth b i) : blocks64 K s a k = blocks64 K s b k := by
  induction k with
  | zero => rfl
  | succ k ih => rw [blocks64, blocks64, ih fun i hi => h i (by omega)]; exact block64_congr fun i hi => h _ (by omega)

/-- The words and the rest of a state that has taken in T. -/
structure Mid (h : Int) (T : List Int) (S : List (BitVec 32)) (L : List (BitVec 64)) (r : List Int) : Prop where
  s : h = 1 → S = (blocks32 K256 start256 T (T.length / 64)).list
  l2 : h = 2 → L = (blocks64 K512 start384 T (T.length / 128)).list
  l3 : h = 3 → L = (blocks64 K512 start512 T (T.length / 128)).list
  r : ∀ i, i < T.length % shaBlock h → nth r i = nth T (shaBlock h * (T.length / shaBlock h) + i)

theorem shaSize_le (h : Int) : shaSize h ≤ 64 := by
  unfold shaSize
  by_cases h1 : h = 1
  · rw [if_pos h1]; omega
  by_cases h2 : h = 2
  · rw [if_neg h1, if_pos h2]; omega
  by_cases h3 : h = 3
  · rw [if_neg h1, if_neg h2, if_pos h3]; omega
  rw [if_neg h1, if_neg h2, if_neg h3]; omega
theorem shaBlock_le (h : Int) : shaBlock h ≤ 128 := by
  unfold shaBlock
  by_cases h1 : h = 1
  · rw [if_pos h1]; omega
  by_cases h2 : h = 2
  · rw [if_neg h1, if_pos h2]; omega
  by_cases h3 : h = 3
  · rw [if_neg h1, if_neg h2, if_pos h3]; omega
  rw [if_neg h1, if_neg h2, if_neg h3]; omega
/-- The three hashes. -/
def IsHash (h : Int) : Prop := h = 1 ∨ h = 2 ∨ h = 3
theorem IsHash.block {h : Int} (hh : IsHash h) : (h = 1 ∧ shaBlock h = 64) ∨ (h ≠ 1 ∧ shaBlock h = 128) := by
  rcases hh with rfl | rfl | rfl
  · exact .inl ⟨rfl, rfl⟩
  · exact .inr ⟨by omega, rfl⟩
  · exact .inr ⟨by omega, rfl⟩

/-- What lies in the rest behind a copy. -/
def laid (r ys : List Int) (at_ k : Nat) : List Int := r.take at_ ++ (ys.take k ++ r.drop (at_ + k))
theorem laid_len (r ys : List Int) (at_ k : Nat) (hr : at_ + k ≤ r.length) (hk : k ≤ ys.length) : (laid r ys at_ k).length = r.length := by
  simp [laid]; omega
theorem nth_laid_low (r ys : List Int) (at_ k i : Nat) (hr : at_ + k ≤ r.length) (hi : i < at_) : nth (laid r ys at_ k) i = nth r i := by
  rw [laid, nth_append_left _ _ _ (by simp; omega), nth_take _ _ _ hi]
theorem nth_laid_mid (r ys : List Int) (at_ k i : Nat) (hr : at_ + k ≤ r.length) (hk : k ≤ ys.length) (hi : i < k) : nth (laid r ys at_ k) (at_ + i) = nth ys i := by
  have h := nth_append_right (r.take at_) (ys.take k ++ r.drop (at_ + k)) i
  rw [List.length_take, Nat.min_eq_left (by omega)] at h
  rw [laid, h, nth_append_left _ _ _ (by simp; omega), nth_take _ _ _ hi]
theorem U8.laid {r ys : List Int} (hr : U8 r) (hy : U8 ys) (at_ k : Nat) : U8 (Sg.laid r ys at_ k) :=
  (hr.take (by omega) _).append (by omega) ((hy.take (by omega) _).append (by omega) (hr.drop (by omega) _))

/-- In the rest stands what the text ends with. -/
theorem laid_text {h : Int} (hh : IsHash h) {T ys r : List Int} {k : Nat} (hr : r.length = 128) (hrest : ∀ i, i < T.length % shaBlock h → nth r i = nth T (shaBlock h * (T.length / shaBlock h) + i))
    (hk : k ≤ ys.length) (hfit : T.length % shaBlock h + k ≤ shaBlock h) (i : Nat) (hi : i < T.length % shaBlock h + k) :
    nth (laid r ys (T.length % shaBlock h) k) i = nth (T ++ ys.take k) (shaBlock h * (T.length / shaBlock h) + i) := by
  have hb : shaBlock h ≤ 128 := shaBlock_le h
  have hdm := Nat.div_add_mod T.length (shaBlock h)
  generalize T.length % shaBlock h = at_ at *
  by_cases hlt : i < at_
  · rw [nth_laid_low _ _ _ _ _ (by omega) hlt, hrest i hlt, nth_append_left _ _ _ (by omega)]
  · obtain ⟨j, rfl⟩ : ∃ j, i = at_ + j := ⟨i - at_, by omega⟩
    rw [nth_laid_mid _ _ _ _ _ (by omega) hk (by omega), ← Nat.add_assoc, hdm, nth_append_right, nth_take _ _ _ (by omega)]

theorem Mid.go {h : Int} (hh : IsHash h) {T ys r : List Int} {S : List (BitVec 32)} {L : List (BitVec 64)} {k : Nat} (m : Mid h T S L r) (hr : r.length = 128) (hk : k ≤ ys.length) (hlt : T.length % shaBlock h + k < shaBlock h) :
    Mid h (T ++ ys.take k) S L (laid r ys (T.length % shaBlock h) k) := by
  have hl : (T ++ ys.take k).length = T.length + k := by simp; omega
  have hsz : 0 < shaBlock h := by omega
  have hdm := Nat.div_add_mod T.length (shaBlock h)
  have hq : (T.length + k) / shaBlock h = T.length / shaBlock h := by
    conv => lhs; rw [← hdm, Nat.add_assoc, Nat.mul_add_div hsz, Nat.div_eq_of_lt hlt, Nat.add_zero]
  have hm : (T.length + k) % shaBlock h = T.length % shaBlock h + k := by
    conv => lhs; rw [← hdm, Nat.add_assoc, Nat.mul_add_mod, Nat.mod_eq_of_lt hlt]
  have low : ∀ i, i < shaBlock h * (T.length / shaBlock h) → nth T i = nth (T ++ ys.take k) i := fun i hi => by
    rw [nth_append_left _ _ _ (by omega)]
  refine ⟨fun e => ?_, fun e => ?_, fun e => ?_, fun i hi => ?_⟩
  · subst e
    rw [m.s rfl, hl, show (T.length + k) / 64 = T.length / 64 from hq]
    exact congrArg S8.list (blocks32_congr _ low)
  · subst e
    rw [m.l2 rfl, hl, show (T.length + k) / 128 = T.length / 128 from hq]
    exact congrArg S8.list (blocks64_congr _ low)
  · subst e
    rw [m.l3 rfl, hl, show (T.length + k) / 128 = T.length / 128 from hq]
    exact congrArg S8.list (blocks64_congr _ low)
  · rw [hl, hm] at hi
    rw [hl, hq]
    exact laid_text hh hr m.r hk (by omega) i hi

theorem Mid.full {h : Int} (hh : IsHash h) {T ys r : List Int} {S : List (BitVec 32)} {L : List (BitVec 64)} {k : Nat} (m : Mid h T S L r) (hr : r.length = 128) (hk : k ≤ ys.length) (heq : T.length % shaBlock h + k = shaBlock h) :
    Mid h (T ++ ys.take k) (if h = 1 then (block32 K256 (S8.of S) (laid r ys (T.length % shaBlock h) k) 0).list else S)
      (if h = 1 then L else (block64 K512 (S8.of L) (laid r ys (T.length % shaBlock h) k) 0).list) (laid r ys (T.length % shaBlock h) k) := by
  have hl : (T ++ ys.take k).length = T.length + k := by simp; omega
  have hsz : 0 < shaBlock h := by rcases hh.block with ⟨_, e⟩ | ⟨_, e⟩ <;> omega
  have hdm := Nat.div_add_mod T.length (shaBlock h)
  have hq : (T.length + k) / shaBlock h = T.length / shaBlock h + 1 := by
    conv => lhs; rw [← hdm, Nat.add_assoc, heq, Nat.mul_add_div hsz, Nat.div_self hsz]
  have hm : (T.length + k) % shaBlock h = 0 := by
    conv => lhs; rw [← hdm, Nat.add_assoc, heq, Nat.mul_add_mod, Nat.mod_self]
  have low : ∀ i, i < shaBlock h * (T.length / shaBlock h) → nth T i = nth (T ++ ys.take k) i := fun i hi => by
    rw [nth_append_left _ _ _ (by omega)]
  have top : ∀ i, i < shaBlock h → nth (laid r ys (T.length % shaBlock h) k) (0 + i) = nth (T ++ ys.take k) (shaBlock h * (T.length / shaBlock h) + i) := fun i hi => by
    rw [Nat.zero_add]; exact laid_text hh hr m.r hk (by omega) i (by omega)
  refine ⟨fun e => ?_, fun e => ?_, fun e => ?_, fun i hi => ?_⟩
  · subst e
    rw [if_pos rfl, m.s rfl, S8.of_list, hl, show (T.length + k) / 64 = T.length / 64 + 1 from hq, blocks32, blocks32_congr (T.length / 64) low]
    exact congrArg S8.list (block32_congr top)
  · subst e
    rw [if_neg (by omega), m.l2 rfl, S8.of_list, hl, show (T.length + k) / 128 = T.length / 128 + 1 from hq, blocks64, blocks64_congr (T.length / 128) low]
    exact congrArg S8.list (block64_congr top)
  · subst e
    rw [if_neg (by omega), m.l3 rfl, S8.of_list, hl, show (T.length + k) / 128 = T.length / 128 + 1 from hq, blocks64, blocks64_congr (T.length / 128) low]
    exact congrArg S8.list (block64_congr top)
  · rw [hl, hm] at hi
    omega
theorem stCells_copy (h : Int) (S : List (BitVec 32)) (L : List (BitVec 64)) (r ys : List Int) (n : BitVec 64) (at_ m d : Nat) (hS : S.length = 8) (hL : L.length = 8) (hr : r.length = 128) (hf : at_ + m ≤ 128) (hd : ys.take d = ys.take m) :
    (stCells h S L r n).take (17 + at_) ++ ((ys.take d).map (Value.int .u8) ++ (stCells h S L r n).drop (17 + at_ + m)) = stCells h S L (laid r ys at_ m) n := by
  have e : stCells h S L r n = (.int .i64 h :: (S.map v32 ++ L.map v64)) ++ (r.map (Value.int .u8) ++ [v64 n]) := by simp [stCells]
  have l17 : (Value.int .i64 h :: (S.map v32 ++ L.map v64)).length = 17 := by simp [hS, hL]
  have e2 : stCells h S L (laid r ys at_ m) n = (.int .i64 h :: (S.map v32 ++ L.map v64)) ++ ((laid r ys at_ m).map (Value.int .u8) ++ [v64 n]) := by simp [stCells]
  rw [e, e2]
  generalize (Value.int .i64 h :: (S.map v32 ++ L.map v64)) = A at *
  rw [List.take_append, List.take_of_length_le (by omega), l17, Nat.add_sub_cancel_left, List.take_append_of_le_length (by simp; omega),
    List.drop_append, List.drop_of_length_le (by omega), l17, show 17 + at_ + m - 17 = at_ + m by omega, List.drop_append_of_le_length (by simp; omega), hd]
  simp [laid, List.map_take, List.map_drop]
end Go.Sg
