import Derived.Test.YtlolkighnnedfaaDoorZ7
import Derived.Test.YtlolkighnnedfaaDoorZ1
import Derived.Deep.MidRow
import Derived.Deep.WholeRow
/- Whole blocks of cells of whatever kinds: the laws of alloc, load, store, copy in these words. -/
set_option linter.unusedVariables false
set_option linter.unusedSimpArgs false
namespace Go.Sg
open Go.RowKit

def Rw (w : World) (g : Nat) (E : TypeId) (vs : List Value) : Prop := w.heap[g]? = some (.cells vs.toArray E (0, 0))

section
variable {w w' : World} {g : Nat} {E : TypeId} {vs : List Value}
theorem Rw.lt (h : Rw w g E vs) : g < w.heap.size := (Array.getElem?_eq_some_iff.1 h).1
theorem Rw.cell (h : Rw w g E vs) (i : Nat) {v : Value} (hv : vs[i]? = some v) : w.cell? ⟨g, i, none⟩ = some v := by
  rw [cell_of_row w g i _ E (0, 0) h]; simpa using hv
theorem Rw.free (h : Rw w g E vs) (i : Nat) : w.frozen? ⟨g, i, none⟩ = false := frozen_of_row w g i _ E h
theorem Rw.set (h : Rw w g E vs) (i : Nat) (v : Value) : Rw (w.setCell ⟨g, i, none⟩ v) g E (vs.set i v) := by
  have := heap_setCell_same w g i _ E v h
  rw [Rw, this]; simp
theorem Rw.other (h : Rw w g E vs) {b : Nat} (hb : g ≠ b) (i : Nat) (v : Value) : Rw (w.setCell ⟨b, i, none⟩ v) g E vs := by
  rw [Rw, heap_setCell_other _ _ _ _ hb]; exact h
theorem Rw.below {B : Nat} (h : Rw w g E vs) (hb : Below B w w') (hg : g < B) : Rw w' g E vs := (hb.block g hg).trans h
theorem Rw.keep (h : Rw w g E vs) (hb : Below w.heap.size w w') : Rw w' g E vs := h.below hb h.lt
theorem Rw.grown {row : Option Nat} (h : Rw w g E vs) (hb : w.grownBy w' row) (hg : some g ≠ row) : Rw w' g E vs := (hb.block g h.lt hg).trans h
theorem Rw.alloc (h : Rw w g E vs) (o : Obj) : Rw (w.alloc o) g E vs := (Below.heap_alloc w o g h.lt).trans h
theorem Rw.drewN (h : Rw w g E vs) (n : Nat) : Rw (w.drewN n) g E vs := h
theorem Rw.new (w : World) (E : TypeId) (vs : List Value) : Rw (w.alloc (.cells vs.toArray E)) w.heap.size E vs := Go.heap_alloc_new w _
theorem Rw.range (h : Rw w g E vs) (o : Nat) (cs : List Value) (hc : ∀ j v, cs[j]? = some v → vs[o + j]? = some v) : w.rangeAt g o cs := fun j v hv => h.cell _ (hc j v hv)
end

/-- Made anew: a variable of more cells than one. -/
theorem wpList_alloc_rw {P : Program} {w : World} {ops : Array Oper} {rest : List Oper} {o : Oper} {a : Act} {Q : Exit → Act → World → Prop} (hgd : o.guard = none) (T : TypeId) (ho : o.op = .alloc T)
    (zs : List Value) (n : Nat) (hi : (P.info? T).map (fun i => (i.zero, i.size)) = some (some (.agg zs.toArray), n))
    (h : ∀ w', Rw w' w.heap.size T zs → w'.heap.size = w.heap.size + 1 → Below w.heap.size w w' → wpList P ops Q rest (a.put o.dst (.pointer (some ⟨w.heap.size, 0, none⟩))) w') : wpList P ops Q (o :: rest) a w := by
  refine wpList_plain hgd fun K hK => ?_
  have hz := (zero_of_info hi).1
  have hrun : (Instr.alloc T true (.tuple #[])).run P w = .ok (.pointer (some ⟨w.heap.size, 0, none⟩)) (w.alloc (.cells zs.toArray T)) := by
    simp [Instr.alloc, hz, newVar, newRow, Value.cells]
  unfold Oper.wp
  simp [execOp, ho, hrun, Result.andThen]
  exact hK _ _ (h _ (Rw.new _ _ _) (by simp) ((Below.refl _ _).alloc (Nat.le_refl _) _))

/-- A whole block into a slot. -/
theorem wpList_load_rw {P : Program} {w : World} {ops : Array Oper} {rest : List Oper} {o : Oper} {a : Act} {Q : Exit → Act → World → Prop} (hgd : o.guard = none) (ty : TypeId) (x : Operand) (ho : o.op = .load ty x)
    (g : Nat) (hx : a.eval x = .pointer (some ⟨g, 0, none⟩)) (E : TypeId) (vs : List Value) (d : TypeDesc) (hg : Rw w g E vs)
    (hu : P.underlying ty = some d) (hd : d.isRow = true) (hi : (P.info? ty).map (·.size) = some vs.length)
    (h : wpList P ops Q rest (a.put o.dst (.agg vs.toArray)) w) : wpList P ops Q (o :: rest) a w :=
  wpList_load_mid hgd ty x ho g 0 hx vs d (hg.range 0 vs fun j v hv => by rwa [Nat.zero_add]) hu hd hi h

/-- A part of a block is written. -/
theorem wpList_store_rw {P : Program} {w : World} {ops : Array Oper} {rest : List Oper} {o : Oper} {a : Act} {Q : Exit → Act → World → Prop} (hgd : o.guard = none) (ty : TypeId) (x y : Operand) (ho : o.op = .store ty x y)
    (g off : Nat) (E : TypeId) (vs cs : List Value) (hx : a.eval x = .pointer (some ⟨g, off, none⟩)) (hy : a.eval y = .agg cs.toArray) (hg : Rw w g E vs)
    (hi : (P.info? ty).map (·.size) = some cs.length) (h1 : ∀ v ∈ cs, v.oneCell' = true) (hfit : off + cs.length ≤ vs.length)
    (h : ∀ w', Rw w' g E (vs.take off ++ (cs ++ vs.drop (off + cs.length))) → w.grownBy w' (some g) → w'.heap.size = w.heap.size → wpList P ops Q rest (a.put o.dst undef) w') : wpList P ops Q (o :: rest) a w := by
  refine wpList_plain hgd fun K hK => ?_
  have hr := run_storeCells_at (P := P) g off E cs 0 vs.toArray w hg (by simp; omega) h1
  simp only [Nat.add_zero] at hr
  have hst : (Instr.storeAt ty (.pointer (some ⟨g, off, none⟩)) (.agg cs.toArray)).run P w = .ok () (w.setRow g (vs.take off ++ (cs ++ vs.drop (off + cs.length))).toArray) := by
    cases hq : P.info? ty with
    | none => simp [hq] at hi
    | some i =>
      have hs : cs.length = i.size := by simp [hq] at hi; omega
      simp only [Instr.storeAt, Instr.sureAddr, Sem.run_bind, Sem.run_pure, Result.andThen_ok]
      simp [storeVar, sizeOf, typeInfo, hq, Value.cells, hs]
      simpa [hs] using hr
  unfold Oper.wp execOp
  simp only [ho, hx, hy, Sem.run_bind, Sem.run_pure, Result.andThen_ok, hst]
  exact hK _ _ (h _ (setRow_heap w g _ _ E (0, 0) hg) ⟨rfl, rfl, rfl, by simp, fun j _ hk => setRow_other w g j _ (fun ee => hk (by simp [ee]))⟩ (by simp))

/-- Numbers are copied into the middle of a block. -/
theorem wpList_copy_rw {P : Program} {w : World} {ops : Array Oper} {rest : List Oper} {o : Oper} {a : Act} {Q : Exit → Act → World → Prop} (hgd : o.guard = none) (d s : Operand) (dT sT : TypeId)
    (ho : o.op = .call { callee := .builtin .copy, args := #[d, s], argTypes := #[dT, sT] }) (E : TypeId) (hu : P.underlying dT = some (.slice E)) (hsz : (P.info? E).map (·.size) = some 1)
    (g off dn dc : Nat) (ad : Option Addr) (sn sc : Nat) (hd : a.eval d = .slice (some ⟨g, off, none⟩) dn dc) (hs : a.eval s = .slice ad sn sc) (T : TypeId) (vs : List Value) (k : IntKind) (ys : List Int) (hB : Rw w g T vs) (hy : Cells k w ad ys) (hyn : ys.length = sn)
    (hp : 0 < min sn dn) (hfit : off + min sn dn ≤ vs.length)
    (h : ∀ w', Rw w' g T (vs.take off ++ ((ys.take dn).map (Value.int k) ++ vs.drop (off + min sn dn))) → w.grownBy w' (some g) → w'.heap.size = w.heap.size → wpList P ops Q rest (a.put o.dst (.int .i64 ((min sn dn : Nat) : Int))) w') : wpList P ops Q (o :: rest) a w := by
  refine wpList_plain hgd fun K hK => ?_
  obtain ⟨b, oy, rfl, hc⟩ := hy (by omega)
  have hrun := run_copy_row (P := P) w dT sT o.type E g off dn dc ⟨b, oy, none⟩ sn sc vs.toArray T ((ys.take dn).map (Value.int k)) hu hsz hB
    (by simp [hyn, Nat.min_comm]) (by
      intro j v hv
      have hadd : (⟨b, oy, none⟩ : Addr).add j = ⟨b, oy + j, none⟩ := by unfold Addr.add; split <;> simp_all
      rw [List.getElem?_map, Option.map_eq_some_iff] at hv
      obtain ⟨y, hy1, rfl⟩ := hv
      rw [List.getElem?_take] at hy1
      split at hy1
      · obtain ⟨hj, hje⟩ := List.getElem?_eq_some_iff.1 hy1
        rw [hadd, hc j hj, nth_get _ _ hj, hje]
      · cases hy1) (by simp [hyn, Nat.min_comm]; simpa [Nat.min_comm] using hfit) (by
      intro v hv
      obtain ⟨y, _, rfl⟩ := List.mem_map.1 hv
      rfl)
  unfold Oper.wp
  simp only [execOp, ho, resolve, invoke, builtin, Sem.run_bind, Sem.run_pure, Result.andThen_ok, List.map_toArray, List.map_cons, List.map_nil, hd, hs, hrun]
  have hl : ((ys.take dn).map (Value.int k)).length = min sn dn := by simp [hyn, Nat.min_comm]
  rw [hl]
  refine hK _ _ (h _ ?_ ⟨rfl, rfl, rfl, by simp, fun j _ hk => setRow_other w g j _ (fun ee => hk (by simp [ee]))⟩ (by simp))
  have := setRow_heap w g vs.toArray (((vs.toArray.toList.take off) ++ ((ys.take dn).map (Value.int k) ++ vs.toArray.toList.drop (off + min sn dn))).toArray) T (0, 0) hB
  rw [Rw]
  simpa using this

/-! ### a cut of an array -/
theorem cut_array {P : Program} (w : World) (T E : TypeId) (N : Nat) (hu : P.underlying T = some (.array N E)) (hs : (P.info? E).map (·.size) = some 1) (b o l h : Nat) (h1 : l ≤ h) (h2 : h ≤ N) (h3 : l < N) (L H : Int) (hL : L = l) (hH : H = h) :
    (Instr.sliceAt T (.pointer (some ⟨b, o, none⟩)) (some (.int .i64 L)) (some (.int .i64 H)) none).run P w = .ok (.slice (some ⟨b, o + l, none⟩) (h - l) (N - l)) w := by
  subst hL hH
  cases hq : P.info? E with
  | none => simp [hq] at hs
  | some i =>
    have hz : i.size = 1 := by simpa [hq] using hs
    have eh : ¬ N = l := by omega
    simp [Instr.sliceAt, Instr.sureAddr, run_underlying hu, Instr.sliceBounds, run_sliceBound, sizeOf, typeInfo, hq, hz, eh, h1, h2, Addr.add_mid]
theorem cut_array_l {P : Program} (w : World) (T E : TypeId) (N : Nat) (hu : P.underlying T = some (.array N E)) (hs : (P.info? E).map (·.size) = some 1) (b o l : Nat) (h3 : l < N) (L : Int) (hL : L = l) :
    (Instr.sliceAt T (.pointer (some ⟨b, o, none⟩)) (some (.int .i64 L)) none none).run P w = .ok (.slice (some ⟨b, o + l, none⟩) (N - l) (N - l)) w := by
  subst hL
  cases hq : P.info? E with
  | none => simp [hq] at hs
  | some i =>
    have hz : i.size = 1 := by simpa [hq] using hs
    have eh : ¬ N = l := by omega
    simp [Instr.sliceAt, Instr.sureAddr, run_underlying hu, Instr.sliceBounds, run_sliceBound, sizeOf, typeInfo, hq, hz, eh, Nat.le_of_lt h3, Addr.add_mid]
/-! ### a cut of a slice -/
theorem cut_l {P : Program} (w : World) (T E : TypeId) (hu : P.underlying T = some (.slice E)) (hs : (P.info? E).map (·.size) = some 1) (a : Option Addr) (n cap l : Nat) (h1 : l ≤ n) (L : Int) (hL : L = l) :
    (Instr.sliceAt T (.slice a n cap) (some (.int .i64 L)) none none).run P w = .ok (.slice (if cap = l then a else a.map (·.add l)) (n - l) (cap - l)) w := by
  subst hL
  cases hq : P.info? E with
  | none => simp [hq] at hs
  | some i =>
    have hz : i.size = 1 := by simpa [hq] using hs
    simp [Instr.sliceAt, Instr.slice, run_underlying hu, Instr.sliceBounds, run_sliceBound, sizeOf, typeInfo, hq, hz, h1]
theorem cut_lh {P : Program} (w : World) (T E : TypeId) (hu : P.underlying T = some (.slice E)) (hs : (P.info? E).map (·.size) = some 1) (a : Option Addr) (n cap l h : Nat) (h1 : l ≤ h) (h2 : h ≤ cap) (L H : Int) (hL : L = l) (hH : H = h) :
    (Instr.sliceAt T (.slice a n cap) (some (.int .i64 L)) (some (.int .i64 H)) none).run P w = .ok (.slice (if cap = l then a else a.map (·.add l)) (h - l) (cap - l)) w := by
  subst hL hH
  cases hq : P.info? E with
  | none => simp [hq] at hs
  | some i =>
    have hz : i.size = 1 := by simpa [hq] using hs
    simp [Instr.sliceAt, Instr.slice, run_underlying hu, Instr.sliceBounds, run_sliceBound, sizeOf, typeInfo, hq, hz, h1, h2]
/-- What is left of a slice behind its first numbers. -/
theorem Sl.cut {k : IntKind} {w : World} {a : Option Addr} {cap : Nat} {xs : List Int} (h : Sl k w a cap xs) (j : Nat) (hj : j ≤ xs.length) : Sl k w (if cap = j then a else a.map (·.add j)) (cap - j) (xs.drop j) := by
  refine ⟨by have := h.le; simp; omega, by have := h.max; omega, fun hp => ?_⟩
  simp at hp
  obtain ⟨b, off, rfl, hc⟩ := h.cells (by omega)
  rw [if_neg (by have := h.le; omega)]
  refine ⟨b, off + j, by simp [Addr.add_mid], fun i hi => ?_⟩
  simp at hi
  rw [Nat.add_assoc, hc (j + i) (by omega), nth_drop]
theorem cut_block {a : Option Addr} {cap j b off : Nat} (h : (if cap = j then a else a.map (·.add j)) = some ⟨b, off, none⟩) : ∃ off' sp, a = some ⟨b, off', sp⟩ := by
  split at h
  · exact ⟨off, none, h⟩
  · cases a with
    | none => simp at h
    | some ad =>
      obtain ⟨b', o', sp⟩ := ad
      refine ⟨o', sp, ?_⟩
      simp [Addr.add] at h
      split at h
      · simp at h; simp [h.1]
      · simp at h; simp [h.1]
end Go.Sg
/- Families of lists of the call's own whose rows are of two types: rows that may grow in place (E), and rows that are full (F: a whole array of the call's own). Printed by gen_span.py out of FamN and FamP. No program in sight. -/
set_option linter.unusedVariables false
set_option linter.unusedSimpArgs false
namespace Go.Sg
open Go.RowKit

theorem New.at_own {B : Nat} {k : IntKind} {E : TypeId} {w : World} {v : Value} {xs : List Int} (h : New B k E w v xs) : ∃ a c, v = .slice a xs.length c ∧ Sl k w a c xs ∧ (∀ b o, a = some ⟨b, o, none⟩ → o = 0 ∧ v.ownBlock = some b) := by
  rcases h with ⟨rfl, rfl⟩ | ⟨g, cap, cs, rfl, hg, hh, h1, h2, h3, h4⟩
  · exact ⟨none, 0, rfl, .nil _ _ _ _ (by omega), fun b o h => by cases h⟩
  · obtain ⟨a, c, hv, hs⟩ := New.sl (.inr ⟨g, cap, cs, rfl, hg, hh, h1, h2, h3, h4⟩ : New B k E w (.slice (some ⟨g, 0, none⟩) xs.length cap) xs)
    simp only [Value.slice.injEq] at hv
    obtain ⟨rfl, _, rfl⟩ := hv
    exact ⟨_, _, rfl, hs, fun b o h => by cases h; exact ⟨rfl, rfl⟩⟩

/-- A list of the call's own: in a row of type E, or filling a row of type F whole. -/
def NewA (B : Nat) (k : IntKind) (E F : TypeId) (w : World) (v : Value) (xs : List Int) : Prop :=
  New B k E w v xs ∨ (New B k F w v xs ∧ ∃ g, v = .slice (some ⟨g, 0, none⟩) xs.length xs.length)
section
variable {B : Nat} {k : IntKind} {E F : TypeId} {w w' : World} {v : Value} {xs : List Int}
theorem New.mix (h : New B k E w v xs) : NewA B k E F w v xs := .inl h
theorem NewA.at_own (h : NewA B k E F w v xs) : ∃ a c, v = .slice a xs.length c ∧ Sl k w a c xs ∧ (∀ b o, a = some ⟨b, o, none⟩ → o = 0 ∧ v.ownBlock = some b) := by
  rcases h with h | ⟨h, _⟩
  · exact h.at_own
  · exact h.at_own
theorem NewA.sl (h : NewA B k E F w v xs) : ∃ a cap, v = .slice a xs.length cap ∧ Sl k w a cap xs := by
  rcases h with h | ⟨h, _⟩
  · exact h.sl
  · exact h.sl
theorem NewA.mono {B' : Nat} (h : NewA B k E F w v xs) (hB : B' ≤ B) : NewA B' k E F w v xs := by
  rcases h with h | ⟨h, r⟩
  · exact .inl (h.mono hB)
  · exact .inr ⟨h.mono hB, r⟩
theorem NewA.kept {row : Option Nat} (h : NewA B k E F w v xs) (hg : w.grownBy w' row) (hne : v.ownBlock = none ∨ v.ownBlock ≠ row) : NewA B k E F w' v xs := by
  rcases h with h | ⟨h, r⟩
  · exact .inl (h.kept hg hne)
  · exact .inr ⟨h.kept hg hne, r⟩
theorem NewA.lt (h : NewA B k E F w v xs) : ∀ g, v.ownBlock = some g → B ≤ g ∧ g < w.heap.size := by
  rcases h with h | ⟨h, _⟩
  · exact h.lt
  · exact h.lt
theorem NewA.keep (h : NewA B k E F w v xs) (hb : Below w.heap.size w w') : NewA B k E F w' v xs := by
  rcases h with h | ⟨h, r⟩
  · exact .inl (h.keep hb)
  · exact .inr ⟨h.keep hb, r⟩
theorem NewA.alloc (h : NewA B k E F w v xs) (o : Obj) : NewA B k E F (w.alloc o) v xs := by
  rcases h with h | ⟨h, r⟩
  · exact .inl (h.alloc o)
  · exact .inr ⟨h.alloc o, r⟩
theorem New.put_ {E : TypeId} {j : Nat} (h : New B k E w v xs) (hj : j < xs.length) : ∃ g c, v = .slice (some ⟨g, 0, none⟩) xs.length c ∧ B ≤ g ∧ g < w.heap.size ∧ w.frozen? ⟨g, j, none⟩ = false ∧ w.cell? ⟨g, j, none⟩ = some (.int k (nth xs j)) ∧ ∀ x, New B k E (w.setCell ⟨g, j, none⟩ (.int k x)) v (xs.set j x) := by
  obtain ⟨g, c, rfl, hB, hp⟩ := h.pre (by omega)
  refine ⟨g, c, rfl, hB, hp.lt, hp.free j, hp.cell j hj, fun x => ?_⟩
  have := (hp.set j x).new hB
  rwa [List.length_set] at this
theorem NewA.put_ {j : Nat} (h : NewA B k E F w v xs) (hj : j < xs.length) : ∃ g c, v = .slice (some ⟨g, 0, none⟩) xs.length c ∧ B ≤ g ∧ g < w.heap.size ∧ w.frozen? ⟨g, j, none⟩ = false ∧ w.cell? ⟨g, j, none⟩ = some (.int k (nth xs j)) ∧ ∀ x, NewA B k E F (w.setCell ⟨g, j, none⟩ (.int k x)) v (xs.set j x) := by
  rcases h with h | ⟨h, g0, r⟩
  · obtain ⟨g, c, e, h1, h2, h3, h4, h5⟩ := h.put_ hj
    exact ⟨g, c, e, h1, h2, h3, h4, fun x => .inl (h5 x)⟩
  · obtain ⟨g, c, e, h1, h2, h3, h4, h5⟩ := h.put_ hj
    exact ⟨g, c, e, h1, h2, h3, h4, fun x => .inr ⟨h5 x, g0, by rw [List.length_set]; exact r⟩⟩
end
/-- A whole array of the call's own, as a list. -/
theorem NewA.of_rw {B : Nat} {k : IntKind} {E F : TypeId} {w : World} {g : Nat} {xs : List Int} {n : Nat} (h : Rw w g F (xs.map (Value.int k))) (hB : B ≤ g) (hn : n = xs.length) (hm : n ≤ 9223372036854775807) : NewA B k E F w (.slice (some ⟨g, 0, none⟩) n n) xs := by
  subst hn
  exact .inr ⟨.inr ⟨g, xs.length, _, rfl, hB, h, Nat.le_refl _, by simp, hm, by rw [List.toList_toArray]; exact List.take_of_length_le (by simp)⟩, g, rfl⟩
/-- An append to a row that is full goes to a row of its own. -/
theorem run_append_full {P : Program} (w : World) (B : Nat) (t ty e e' : TypeId) (k : IntKind) (bytes : Nat) (ht : P.underlying t = some (.slice e)) (hi : (P.info? e).map (fun i => (i.zero, i.size, i.bytes)) = some (some (.int k 0), 1, bytes))
    (xs : List Int) (g : Nat) (hv : New B k e' w (.slice (some ⟨g, 0, none⟩) xs.length xs.length) xs) (a : Option Addr) (c : Nat) (ys : List Int) (hp : 0 < ys.length) (hy : Cells k w a ys) (hm : xs.length + ys.length ≤ 9223372036854775807) (hbytes : (xs.length + ys.length) * bytes ≤ 140737488355328) (hB : B ≤ w.heap.size) :
    ∃ v' w', (Builtin.append_ #[t, t] ty #[.slice (some ⟨g, 0, none⟩) xs.length xs.length, .slice a ys.length c]).run P w = .ok v' w' ∧ New B k e w' v' (xs ++ ys) ∧ w.grownBy w' none ∧ ∃ g', v'.ownBlock = some g' ∧ w.heap.size ≤ g' := by
  obtain ⟨i, hi0, hz, hs, hby⟩ := info1 hi
  obtain ⟨b, off, rfl, hc⟩ := hy (by omega)
  have hnews : ∀ (j : Nat) (u : Value), (ys.map (Value.int k))[j]? = some u → w.cell? ((⟨b, off, none⟩ : Addr).add j) = some u := by
    intro j u hu
    have hadd : (⟨b, off, none⟩ : Addr).add j = ⟨b, off + j, none⟩ := by unfold Addr.add; split <;> simp_all
    rw [List.getElem?_map, Option.map_eq_some_iff] at hu
    obtain ⟨y, hy1, rfl⟩ := hu
    obtain ⟨hj, hje⟩ := List.getElem?_eq_some_iff.1 hy1
    rw [hadd, hc j hj, nth_get _ _ hj, hje]
  have grown : ∀ (old : Nat), old < xs.length + ys.length →
      New B k e (w.drew.alloc (.cells ((xs.map (Value.int k)).toArray ++ (ys.map (Value.int k)).toArray ++ Builtin.zeroCells (Value.cells (.int k 0)) (grownCap w (xs.length + ys.length) old e - (xs.length + ys.length))) e))
        (.slice (some ⟨w.heap.size, 0, none⟩) (xs.length + ys.length) (grownCap w (xs.length + ys.length) old e)) (xs ++ ys) ∧
      w.grownBy (w.drew.alloc (.cells ((xs.map (Value.int k)).toArray ++ (ys.map (Value.int k)).toArray ++ Builtin.zeroCells (Value.cells (.int k 0)) (grownCap w (xs.length + ys.length) old e - (xs.length + ys.length))) e)) none := by
    intro old ho
    have hge := grownCap_ge w (xs.length + ys.length) old e
    have hcm : grownCap w (xs.length + ys.length) old e ≤ maxLen := grownCap_le_maxLen w (xs.length + ys.length) old e (by unfold maxLen; omega)
    unfold maxLen at hcm
    refine ⟨.inr ⟨w.heap.size, grownCap w (xs.length + ys.length) old e, _, by simp, hB, Go.heap_alloc_new w.drew _, by simp; omega, ?_, by omega, ?_⟩, ⟨rfl, rfl, rfl, by simp, fun j hj _ => Below.heap_alloc w.drew _ j hj⟩⟩
    · simp only [Array.size_append, List.size_toArray, List.length_map, size_zeroCells]
      rw [show (Value.cells (.int k 0)).size = 1 from rfl]
      omega
    · simp only [Array.toList_append, List.append_assoc, List.map_append, List.length_append]
      rw [← List.append_assoc]
      apply List.take_left'
      simp
  obtain ⟨hcs, hh, htake⟩ : ∃ cs, w.heap[g]? = some (.cells cs e' (0, 0)) ∧ cs.toList.take xs.length = xs.map (Value.int k) := by
    rcases hv with ⟨hv, _⟩ | ⟨g2, cap, cs, hv, _, hh, _, _, _, h4⟩
    · cases hv
    · simp only [Value.slice.injEq, Option.some.injEq, Addr.mk.injEq, and_true] at hv
      obtain ⟨rfl, _⟩ := hv
      exact ⟨cs, hh, h4⟩
  have holds : ∀ (j : Nat) (u : Value), (xs.map (Value.int k))[j]? = some u → w.cell? ((⟨g, 0, none⟩ : Addr).add j) = some u := by
    intro j u hu
    have hadd : (⟨g, 0, none⟩ : Addr).add j = ⟨g, j, none⟩ := by unfold Addr.add; split <;> simp_all
    rw [hadd, cell_of_row w g j hcs e' (0, 0) hh]
    rw [← htake, List.getElem?_take] at hu
    split at hu
    · simpa using hu
    · cases hu
  have hr := run_append_grow (P := P) w t ty e i (.int k 0) ht hi0 hz ⟨g, 0, none⟩ xs.length xs.length (xs.map (Value.int k)) (by simp [hs]) holds ⟨b, off, none⟩ ys.length c (ys.map (Value.int k)) (by simp [hs]) hnews (by omega) (by omega) (growslice_fits (by omega) (by rw [hby]; exact hbytes))
  have hgr := grown xs.length (by omega)
  exact ⟨_, _, hr, hgr.1, hgr.2, _, rfl, Nat.le_refl _⟩
theorem wpList_append_keepA {P : Program} (w : World) {ops : Array Oper} {rest : List Oper} {o : Oper} {a : Act} {Q : Exit → Act → World → Prop} (hgd : o.guard = none) (s x : Operand) (t : TypeId)
    (ho : o.op = .call { callee := .builtin .append, args := #[s, x], argTypes := #[t, t] }) (B : Nat) (e e' : TypeId) (k : IntKind) (bytes : Nat) (ht : P.underlying t = some (.slice e))
    (hi : (P.info? e).map (fun i => (i.zero, i.size, i.bytes)) = some (some (.int k 0), 1, bytes)) (v : Value) (xs : List Int) (hs : a.eval s = v) (hv : NewA B k e e' w v xs)
    (ad : Option Addr) (c n : Nat) (ys : List Int) (hx : a.eval x = .slice ad n c) (hn : n = ys.length) (hp : 0 < ys.length) (hy : Cells k w ad ys) (hm : xs.length + ys.length ≤ 9223372036854775807) (hbytes : (xs.length + ys.length) * bytes ≤ 140737488355328) (hB : B ≤ w.heap.size)
    (h : ∀ v' w', NewA B k e e' w' v' (xs ++ ys) → NewA B k e e' w' v xs → w.grownBy w' v.ownBlock → (v'.ownBlock = v.ownBlock ∨ ∃ g, v'.ownBlock = some g ∧ w.heap.size ≤ g) → wpList P ops Q rest (a.put o.dst v') w') : wpList P ops Q (o :: rest) a w := by
  rcases hv with hv | ⟨hv, g, rfl⟩
  · exact wpList_append_keep w hgd s x t ho B e k bytes ht hi v xs hs hv ad c n ys hx hn hy hm hbytes hB fun v' w' h1 h2 h3 h4 => h v' w' h1.mix h2.mix h3 h4
  · subst hn
    refine wpList_plain hgd fun K hK => ?_
    obtain ⟨v', w', hr, h2, h3, g', h4, h5⟩ := run_append_full (P := P) w B t o.type e e' k bytes ht hi xs g hv ad c ys hp hy hm hbytes hB
    have hg : w.grownBy w' (Value.slice (some ⟨g, 0, none⟩) xs.length xs.length).ownBlock := ⟨h3.os, h3.tape, h3.output, h3.size, fun j hj _ => h3.block j hj (by simp)⟩
    have h6 : NewA B k e e' w' (.slice (some ⟨g, 0, none⟩) xs.length xs.length) xs := .inr ⟨hv.kept h3 (.inr (by simp [Value.ownBlock])), g, rfl⟩
    unfold Oper.wp execOp
    simp only [ho, resolve, invoke, builtin, Sem.run_bind, Sem.run_pure, Result.andThen_ok, List.map_toArray, List.map_cons, List.map_nil, hs, hx, hr]
    exact hK _ _ (h v' w' h2.mix h6 hg (.inr ⟨g', h4, h5⟩))
/-- n lists: V i reads as A i. -/
structure FamV (B : Nat) (k : IntKind) (E F : TypeId) (w : World) (n : Nat) (V : Nat → Value) (A : Nat → List Int) : Prop where
  new : ∀ i, i < n → NewA B k E F w (V i) (A i)
  apart : ∀ i j, i < n → j < n → i ≠ j → ∀ g, (V i).ownBlock = some g → (V j).ownBlock ≠ some g
section
variable {B n : Nat} {k : IntKind} {E F : TypeId} {w w' : World} {V : Nat → Value} {A : Nat → List Int}
theorem FamV.zero (B : Nat) (k : IntKind) (E F : TypeId) (w : World) (V : Nat → Value) (A : Nat → List Int) : FamV B k E F w 0 V A := ⟨fun i h => by omega, fun i j h => by omega⟩
theorem FamV.keep (h : FamV B k E F w n V A) (hb : Below w.heap.size w w') : FamV B k E F w' n V A := ⟨fun i hi => (h.new i hi).keep hb, h.apart⟩
theorem FamV.grown {row : Option Nat} (h : FamV B k E F w n V A) (hg : w.grownBy w' row) (hne : ∀ i, i < n → ∀ g, (V i).ownBlock = some g → some g ≠ row) : FamV B k E F w' n V A :=
  ⟨fun i hi => (h.new i hi).kept hg (by
    cases hv : (V i).ownBlock with
    | none => exact .inl rfl
    | some g => exact .inr (hne i hi g hv)), h.apart⟩
theorem FamV.mono {B' : Nat} (h : FamV B k E F w n V A) (hB : B' ≤ B) : FamV B' k E F w n V A := ⟨fun i hi => (h.new i hi).mono hB, h.apart⟩
/-- One more list, made since. -/
theorem FamV.push {v : Value} {xs : List Int} (h : FamV B k E F w n V A) (hv : NewA B k E F w' v xs) (hb : Below w.heap.size w w') (hf : ∀ g, v.ownBlock = some g → w.heap.size ≤ g) :
    FamV B k E F w' (n + 1) (fun i => if i < n then V i else v) (fun i => if i < n then A i else xs) := by
  have h2 := h.keep hb
  refine ⟨fun i hi => ?_, fun i j hi hj hne g hg => ?_⟩
  · by_cases e : i < n
    · simp only [e, if_true]
      exact h2.new i e
    · simp only [e, if_false]
      exact hv
  · by_cases e1 : i < n <;> by_cases e2 : j < n <;> simp only [e1, e2, if_true, if_false] at hg ⊢
    · exact h.apart i j e1 e2 hne g hg
    · intro hg2
      have h3 := ((h.new i e1).lt g hg).2
      have := hf g hg2
      omega
    · intro hg2
      have h3 := ((h.new j e2).lt g hg2).2
      have := hf g hg
      omega
    · exact absurd (show i = j by omega) hne
/-- A number is stored into one of them. -/
theorem FamV.set (h : FamV B k E F w n V A) {i j : Nat} (hi : i < n) (hj : j < (A i).length) (x : Int) {g o : Nat} {c : Nat} (hv : V i = .slice (some ⟨g, o, none⟩) (A i).length c) :
    o = 0 ∧ w.frozen? ⟨g, j, none⟩ = false ∧ w.cell? ⟨g, j, none⟩ = some (.int k (nth (A i) j)) ∧ B ≤ g ∧ g < w.heap.size ∧ FamV B k E F (w.setCell ⟨g, j, none⟩ (.int k x)) n V (fun m => if m = i then (A i).set j x else A m) := by
  obtain ⟨g2, c2, hv2, hB, hlt, hfr, hcl, hset⟩ := (h.new i hi).put_ hj
  rw [hv] at hv2
  simp only [Value.slice.injEq, Option.some.injEq, Addr.mk.injEq, and_true] at hv2
  obtain ⟨⟨rfl, rfl⟩, _, rfl⟩ := hv2
  refine ⟨rfl, hfr, hcl, hB, hlt, fun m hm => ?_, h.apart⟩
  by_cases e : m = i
  · subst e
    simp only [if_true]
    exact hset x
  · simp only [e, if_false]
    refine (h.new m hm).kept (grownBy_set w ⟨g, j, none⟩ (.int k x)) ?_
    cases hv3 : (V m).ownBlock with
    | none => exact .inl rfl
    | some g3 =>
      refine .inr fun e2 => ?_
      have e3 := Option.some.inj e2
      subst e3
      exact h.apart m i hm hi e g3 hv3 (by rw [hv]; rfl)
theorem FamV.congr {A' : Nat → List Int} (h : FamV B k E F w n V A) (e : ∀ i, i < n → A i = A' i) : FamV B k E F w n V A' := ⟨fun i hi => by rw [← e i hi]; exact h.new i hi, h.apart⟩
theorem FamV.own (h : FamV B k E F w n V A) {i : Nat} (hi : i < n) : ∃ a c, V i = .slice a (A i).length c ∧ Sl k w a c (A i) ∧ (∀ b o, a = some ⟨b, o, none⟩ → B ≤ b ∧ b < w.heap.size) := by
  obtain ⟨a, c, hv, hs, ho⟩ := (h.new i hi).at_own
  exact ⟨a, c, hv, hs, fun b o ha => (h.new i hi).lt b (ho b o ha).2⟩
end

/-- One list of the call's own: v as it was handed out (reads A), u what has grown out of it. -/
structure ExtK (S B : Nat) (k : IntKind) (E F : TypeId) (w : World) (v : Value) (A : List Int) (u : Value) (X : List Int) : Prop where
  sa : ∃ a c, v = .slice a A.length c ∧ Sl k w a c A ∧ (∀ b o, a = some ⟨b, o, none⟩ → o = 0)
  nx : NewA B k E F w u (A ++ X)
  own : ∀ g, u.ownBlock = some g → v.ownBlock = some g ∨ S ≤ g
  old : ∀ g, v.ownBlock = some g → g < S ∧ B ≤ g
section
variable {S B : Nat} {k : IntKind} {E F : TypeId} {w w' : World} {v u u' : Value} {A X ys : List Int}
theorem ExtK.start (h : NewA B k E F w v A) (hS : w.heap.size ≤ S) : ExtK S B k E F w v A v [] := by
  obtain ⟨a, c, hv, hs, ho⟩ := h.at_own
  exact ⟨⟨a, c, hv, hs, fun b o ha => (ho b o ha).1⟩, by rw [List.append_nil]; exact h, fun g hg => .inl hg, fun g hg => by have := h.lt g hg; omega⟩
theorem ExtK.below (h : ExtK S B k E F w v A u X) (hb : Below w.heap.size w w') : ExtK S B k E F w' v A u X := by
  obtain ⟨a, c, hv, hs, ho⟩ := h.sa
  exact ⟨⟨a, c, hv, hs.below hb, ho⟩, h.nx.keep hb, h.own, h.old⟩
theorem ExtK.grown {row : Option Nat} (h : ExtK S B k E F w v A u X) (hg : w.grownBy w' row) (h1 : ∀ g, v.ownBlock = some g → some g ≠ row) (h2 : ∀ g, u.ownBlock = some g → some g ≠ row) : ExtK S B k E F w' v A u X := by
  obtain ⟨a, c, hv, hs, ho⟩ := h.sa
  refine ⟨⟨a, c, hv, hs.grown' hg (fun b off ha _ => h1 b (by rw [hv, ha]; rfl)), ho⟩, h.nx.kept hg ?_, h.own, h.old⟩
  cases hu : u.ownBlock with
  | none => exact .inl rfl
  | some g => exact .inr (h2 g hu)
theorem ExtK.append (h : ExtK S B k E F w v A u X) (n1 : NewA B k E F w' u' (A ++ X ++ ys)) (n0 : NewA B k E F w' u (A ++ X)) (hg : w.grownBy w' u.ownBlock)
    (ho : u'.ownBlock = u.ownBlock ∨ ∃ g, u'.ownBlock = some g ∧ w.heap.size ≤ g) (hS : S ≤ w.heap.size) : ExtK S B k E F w' v A u' (X ++ ys) := by
  obtain ⟨a, c, hv, hs, hz⟩ := h.sa
  refine ⟨⟨a, c, hv, ?_, hz⟩, by rw [← List.append_assoc]; exact n1, fun g hg' => ?_, h.old⟩
  · cases hu : u.ownBlock with
    | none => rw [hu] at hg; exact hs.grown' hg (fun b off _ _ => by simp)
    | some g =>
      rw [hu] at hg
      rcases h.own g hu with ha | hs2
      · refine ⟨hs.le, hs.max, fun hp => ?_⟩
        obtain ⟨b, off, rfl, hc⟩ := hs.cells hp
        obtain rfl := hz b off rfl
        rw [hv] at ha
        have hbg : b = g := by simpa [Value.ownBlock] using ha
        subst hbg
        obtain ⟨a2, c2, hv2, hs2, ho2⟩ := n0.at_own
        obtain ⟨b2, off2, rfl, hc2⟩ := hs2.cells (by rw [List.length_append]; omega)
        obtain ⟨rfl, ho3⟩ := ho2 b2 off2 rfl
        rw [hu] at ho3
        cases ho3
        have t := (hs2.take A.length).cells
        rw [List.take_left] at t
        exact t hp
      · exact hs.grown' hg (fun b off ha _ e => by
          have := (h.old b (by rw [hv, ha]; rfl)).1
          have := Option.some.inj e
          omega)
  · rcases ho with e | ⟨g2, e, hg2⟩
    · exact h.own g (e ▸ hg')
    · rw [e] at hg'
      have := Option.some.inj hg'
      exact .inr (by omega)
end

/-- n lists as they were handed out (V i reads as A i), and what has grown out of each (U i: A i and X i). -/
structure Fam (S B : Nat) (k : IntKind) (E F : TypeId) (w : World) (n : Nat) (V U : Nat → Value) (A X : Nat → List Int) : Prop where
  ext : ∀ i, i < n → ExtK S B k E F w (V i) (A i) (U i) (X i)
  apart : ∀ i j, i < n → j < n → i ≠ j → ∀ g, (U i).ownBlock = some g → (V j).ownBlock ≠ some g ∧ (U j).ownBlock ≠ some g
  vv : ∀ i j, i < n → j < n → i ≠ j → ∀ g, (V i).ownBlock = some g → (V j).ownBlock ≠ some g
section
variable {S B n : Nat} {k : IntKind} {E F : TypeId} {w w' : World} {V U : Nat → Value} {A X : Nat → List Int}
theorem FamV.fam (h : FamV B k E F w n V A) (hS : w.heap.size ≤ S) : Fam S B k E F w n V V A (fun _ => []) :=
  ⟨fun i hi => .start (h.new i hi) hS, fun i j hi hj hne g hg => ⟨h.apart i j hi hj hne g hg, h.apart i j hi hj hne g hg⟩, h.apart⟩
theorem Fam.keep (h : Fam S B k E F w n V U A X) (hb : Below w.heap.size w w') : Fam S B k E F w' n V U A X := ⟨fun i hi => (h.ext i hi).below hb, h.apart, h.vv⟩
theorem Fam.grown {row : Option Nat} (h : Fam S B k E F w n V U A X) (hg : w.grownBy w' row) (h1 : ∀ i, i < n → ∀ g, (V i).ownBlock = some g → some g ≠ row) (h2 : ∀ i, i < n → ∀ g, (U i).ownBlock = some g → some g ≠ row) : Fam S B k E F w' n V U A X :=
  ⟨fun i hi => (h.ext i hi).grown hg (h1 i hi) (h2 i hi), h.apart, h.vv⟩
/-- One of them grows by an append. -/
theorem Fam.append (h : Fam S B k E F w n V U A X) {i : Nat} (hi : i < n) {u' : Value} {ys : List Int} (n1 : NewA B k E F w' u' (A i ++ X i ++ ys)) (n0 : NewA B k E F w' (U i) (A i ++ X i)) (hg : w.grownBy w' (U i).ownBlock)
    (ho : u'.ownBlock = (U i).ownBlock ∨ ∃ g, u'.ownBlock = some g ∧ w.heap.size ≤ g) (hS : S ≤ w.heap.size) :
    Fam S B k E F w' n V (fun m => if m = i then u' else U m) A (fun m => if m = i then X i ++ ys else X m) := by
  have low : ∀ m, m < n → ∀ g, (U m).ownBlock = some g → g < w.heap.size := fun m hm g hg => ((h.ext m hm).nx.lt g hg).2
  have lowV : ∀ m, m < n → ∀ g, (V m).ownBlock = some g → g < w.heap.size := fun m hm g hg => Nat.lt_of_lt_of_le ((h.ext m hm).old g hg).1 hS
  have fresh : ∀ g, u'.ownBlock = some g → (U i).ownBlock = some g ∨ w.heap.size ≤ g := fun g hg => by
    rcases ho with e | ⟨g2, e, hge⟩
    · exact .inl (e ▸ hg)
    · rw [e] at hg
      have := Option.some.inj hg
      exact .inr (by omega)
  refine ⟨fun m hm => ?_, fun a b ha hb hne g hg2 => ?_, h.vv⟩
  · by_cases e : m = i
    · subst e
      simp only [if_true]
      exact (h.ext m hm).append n1 n0 hg ho hS
    · simp only [e, if_false]
      refine (h.ext m hm).grown hg (fun g hv e2 => ?_) (fun g hv e2 => ?_)
      · exact (h.apart i m hi hm (fun e3 => e e3.symm) g e2.symm).1 hv
      · exact (h.apart i m hi hm (fun e3 => e e3.symm) g e2.symm).2 hv
  · by_cases e1 : a = i
    · subst e1
      simp only [if_true] at hg2
      have e2 : ¬ b = a := fun e => hne e.symm
      simp only [e2, if_false]
      rcases fresh g hg2 with h3 | h3
      · exact h.apart a b ha hb hne g h3
      · exact ⟨fun h4 => by have := lowV b hb g h4; omega, fun h4 => by have := low b hb g h4; omega⟩
    · simp only [e1, if_false] at hg2
      by_cases e2 : b = i
      · subst e2
        simp only [if_true]
        refine ⟨(h.apart a b ha hb hne g hg2).1, fun h4 => ?_⟩
        rcases fresh g h4 with h3 | h3
        · exact (h.apart a b ha hb hne g hg2).2 h3
        · have := low a ha g hg2
          omega
      · simp only [e2, if_false]
        exact h.apart a b ha hb hne g hg2
theorem Fam.congr {U' : Nat → Value} {A' X' : Nat → List Int} (h : Fam S B k E F w n V U A X) (e1 : ∀ i, i < n → U i = U' i) (e2 : ∀ i, i < n → X i = X' i) (e3 : ∀ i, i < n → A i = A' i) : Fam S B k E F w n V U' A' X' :=
  ⟨fun i hi => by rw [← e1 i hi, ← e2 i hi, ← e3 i hi]; exact h.ext i hi, fun i j hi hj hne g hg => by
    rw [← e1 i hi] at hg
    rw [← e1 j hj]
    exact h.apart i j hi hj hne g hg, h.vv⟩
end

/-- A row of the call's own whose places hold slices. -/
structure RowV (w : World) (g n : Nat) (V : Nat → Value) : Prop where
  lt : g < w.heap.size
  cell : ∀ j, j < n → w.cell? ⟨g, j, none⟩ = some (V j)
theorem RowV.grown {w w' : World} {g n : Nat} {V : Nat → Value} {row : Option Nat} (h : RowV w g n V) (hg : w.grownBy w' row) (hne : some g ≠ row) : RowV w' g n V :=
  ⟨Nat.lt_of_lt_of_le h.lt hg.size, fun j hj => (World.cell?_of_block (a := ⟨g, j, none⟩) (hg.block g h.lt hne)).trans (h.cell j hj)⟩
theorem RowV.keep {w w' : World} {g n : Nat} {V : Nat → Value} (h : RowV w g n V) (hb : Below w.heap.size w w') : RowV w' g n V :=
  ⟨Nat.lt_of_lt_of_le h.lt hb.size, fun j hj => (World.cell?_of_block (a := ⟨g, j, none⟩) (hb.block g h.lt)).trans (h.cell j hj)⟩
theorem RowV.new (w : World) (E : TypeId) (n : Nat) (V : Nat → Value) (cs : Array Value) (hcs : ∀ j, j < n → cs[j]? = some (V j)) (g : Nat) (hg : g = w.heap.size) : RowV (w.alloc (.cells cs E)) g n V := by
  subst hg
  refine ⟨by simp, fun j hj => ?_⟩
  rw [cell_of_row (w.alloc (.cells cs E)) w.heap.size j cs E (0, 0) (by show (w.heap.push _)[w.heap.size]? = _; simp)]
  exact hcs j hj
/-- A row whose places are slices is none of numbers. -/
theorem NewV.asideN {B : Nat} {E E' : TypeId} {k : IntKind} {w : World} {v u : Value} {vs : List Value} {B' : Nat} {xs : List Int} (h : NewV B E w v vs) (hu : New B' k E' w u xs) (hne : E' ≠ E) : ∀ g, u.ownBlock = some g → some g ≠ v.ownBlock := by
  intro g hg e
  rcases h with ⟨rfl, _⟩ | ⟨g', cp, cs, rfl, hbg, hh, _⟩
  · simp [Value.ownBlock] at e
  · rcases hu with ⟨rfl, _⟩ | ⟨g2, cap2, cs2, rfl, hb2, hh2, _⟩
    · simp [Value.ownBlock] at hg
    · simp only [Value.ownBlock, Option.some.injEq] at hg e
      subst hg
      subst e
      rw [hh] at hh2
      simp only [Option.some.injEq, Obj.cells.injEq] at hh2
      exact hne hh2.2.1.symm
theorem NewV.aside' {B : Nat} {T E F : TypeId} {k : IntKind} {w : World} {v u : Value} {vs : List Value} {B' : Nat} {xs : List Int} (h : NewV B T w v vs) (hu : NewA B' k E F w u xs) (hne : E ≠ T ∧ F ≠ T) : ∀ g, u.ownBlock = some g → some g ≠ v.ownBlock := by
  rcases hu with hu | ⟨hu, _⟩
  · exact h.asideN hu hne.1
  · exact h.asideN hu hne.2
theorem range_push {V V' : Nat → Value} {n : Nat} {v : Value} (h1 : ∀ j, j < n → V' j = V j) (h2 : V' n = v) : (List.range (n + 1)).map V' = (List.range n).map V ++ [v] := by
  rw [List.range_succ, List.map_append, List.map_cons, List.map_nil, h2]
  congr 1
  exact List.map_congr_left fun j hj => h1 j (List.mem_range.1 hj)
section
variable {B n : Nat} {k : IntKind} {E F T : TypeId} {w w' : World} {V : Nat → Value} {A : Nat → List Int}
/-- One more list, made since: the row and the lists by new names. -/
theorem FamV.push' {v : Value} {xs : List Int} (h : FamV B k E F w n V A) (hv : NewA B k E F w' v xs) (hb : Below w.heap.size w w') (hf : ∀ g, v.ownBlock = some g → w.heap.size ≤ g) :
    ∃ V' A', FamV B k E F w' (n + 1) V' A' ∧ (List.range (n + 1)).map V' = (List.range n).map V ++ [v] ∧ (∀ j, j < n → A' j = A j) ∧ A' n = xs ∧ (∀ j, j < n → V' j = V j) ∧ V' n = v := by
  have e1 : ∀ j, j < n → (if j < n then V j else v) = V j := fun j hj => if_pos hj
  have e2 : (if n < n then V n else v) = v := if_neg (by omega)
  exact ⟨_, _, h.push hv hb hf, range_push e1 e2, fun j hj => if_pos hj, if_neg (by omega), e1, e2⟩
/-- A row whose places are the slices of n lists. -/
structure Lists (B : Nat) (k : IntKind) (E F T : TypeId) (w : World) (l : Value) (n : Nat) (V : Nat → Value) (A : Nat → List Int) : Prop where
  row : NewV B T w l ((List.range n).map V)
  fam : FamV B k E F w n V A
theorem Lists.keep {l : Value} (h : Lists B k E F T w l n V A) (hb : Below w.heap.size w w') : Lists B k E F T w' l n V A := ⟨h.row.keep hb, h.fam.keep hb⟩
theorem Lists.sl {l : Value} (h : Lists B k E F T w l n V A) : ∃ a c, l = .slice a n c := by
  obtain ⟨a, c, e⟩ := h.row.sl
  rw [List.length_map, List.length_range] at e
  exact ⟨a, c, e⟩
theorem NewV.place {a : Option Addr} {m c i : Nat} (h : NewV B T w (.slice a m c) ((List.range n).map V)) (hi : i < n) : ∃ g, a = some ⟨g, 0, none⟩ ∧ w.cell? ⟨g, i, none⟩ = some (V i) := by
  obtain ⟨g, ha, _, hc⟩ := h.cell i (by simpa using hi)
  refine ⟨g, ha, ?_⟩
  rw [hc]
  simp
/-- A number is stored into one of the lists. -/
theorem Lists.set {l : Value} (h : Lists B k E F T w l n V A) (hne : E ≠ T ∧ F ≠ T) {i j : Nat} (hi : i < n) (hj : j < (A i).length) (x : Int) {g o c : Nat} (hv : V i = .slice (some ⟨g, o, none⟩) (A i).length c) :
    o = 0 ∧ w.frozen? ⟨g, j, none⟩ = false ∧ w.cell? ⟨g, j, none⟩ = some (.int k (nth (A i) j)) ∧ B ≤ g ∧ g < w.heap.size ∧ Lists B k E F T (w.setCell ⟨g, j, none⟩ (.int k x)) l n V (fun m => if m = i then (A i).set j x else A m) := by
  obtain ⟨h0, h1, h2, h3, h4, h5⟩ := h.fam.set hi hj x hv
  refine ⟨h0, h1, h2, h3, h4, ?_, h5⟩
  have hn := h.fam.new i hi
  have hg : (V i).ownBlock = some g := by rw [hv]; rfl
  have ha := h.row.aside' hn hne g hg
  refine h.row.kept (grownBy_set w ⟨g, j, none⟩ (.int k x)) ?_
  cases hl : l.ownBlock with
  | none => exact .inl rfl
  | some q => exact .inr fun e => ha (by rw [hl, e])
theorem Lists.congr {l : Value} {A' : Nat → List Int} (h : Lists B k E F T w l n V A) (e : ∀ i, i < n → A i = A' i) : Lists B k E F T w l n V A' := ⟨h.row, h.fam.congr e⟩
end
theorem cells_news (w : World) (E : TypeId) (us : List Value) (arr : Array Value) (he : arr = us.toArray) (g : Nat) (hg : g = w.heap.size) : ∀ (j : Nat) (x : Value), us[j]? = some x → (w.alloc (.cells arr E)).cell? ((⟨g, 0, none⟩ : Addr).add j) = some x := by
  intro j x hx
  subst he hg
  have hadd : (⟨w.heap.size, 0, none⟩ : Addr).add j = ⟨w.heap.size, j, none⟩ := by unfold Addr.add; split <;> simp_all
  rw [hadd, cell_of_row (w.alloc (.cells us.toArray E)) w.heap.size j us.toArray E (0, 0) (Go.heap_alloc_new w _)]
  simpa using hx
/-- A row and its lists, when the row has grown by an append. -/
theorem Lists.grow {B n n' : Nat} {k : IntKind} {E F T : TypeId} {w w' : World} {V V' : Nat → Value} {A' : Nat → List Int} {l l' : Value} {us : List Value} (hr : NewV B T w l ((List.range n).map V)) (hf : FamV B k E F w n' V' A') (hne : E ≠ T ∧ F ≠ T)
    (h1 : NewV B T w' l' ((List.range n).map V ++ us)) (hg : w.grownBy w' l.ownBlock) (e : (List.range n').map V' = (List.range n).map V ++ us) : Lists B k E F T w' l' n' V' A' :=
  ⟨by rw [e]; exact h1, hf.grown hg fun i hi g hv => hr.aside' (hf.new i hi) hne g hv⟩
/-- A row whose places are slices is no block of numbers. -/
theorem NewV.aside_blk {B g : Nat} {E E' : TypeId} {k : IntKind} {w : World} {v : Value} {vs : List Value} {xs : List Int} (h : NewV B E w v vs) (hu : Blk w g k E' xs) (hne : E' ≠ E) : some g ≠ v.ownBlock := by
  intro e
  rcases h with ⟨rfl, _⟩ | ⟨g', cp, cs, rfl, hbg, hh, _⟩
  · simp [Value.ownBlock] at e
  · simp only [Value.ownBlock, Option.some.injEq] at e
    subst e
    have h2 : w.heap[g]? = _ := hu
    rw [hh] at h2
    simp only [Option.some.injEq, Obj.cells.injEq] at h2
    exact hne h2.2.1.symm
theorem fill_at (z : List Int) (k : Nat) (x : Int) (hk : k < z.length) : (List.replicate k x ++ z.drop k).set k x = List.replicate (k + 1) x ++ z.drop (k + 1) := by
  rw [List.set_append_right _ _ (by rw [List.length_replicate]; omega), List.length_replicate, Nat.sub_self, List.drop_eq_getElem_cons hk, List.set_cons_zero, List.replicate_succ', List.append_assoc]
  rfl
theorem Lists.put {B n i j : Nat} {k : IntKind} {E F T : TypeId} {w : World} {V : Nat → Value} {A : Nat → List Int} {l : Value} (h : Lists B k E F T w l n V A) (hne : E ≠ T ∧ F ≠ T) (hi : i < n) (hj : j < (A i).length) (x : Int) :
    ∃ g c, V i = .slice (some ⟨g, 0, none⟩) (A i).length c ∧ w.frozen? ⟨g, j, none⟩ = false ∧ w.cell? ⟨g, j, none⟩ = some (.int k (nth (A i) j)) ∧ B ≤ g ∧ Lists B k E F T (w.setCell ⟨g, j, none⟩ (.int k x)) l n V (fun m => if m = i then (A i).set j x else A m) := by
  obtain ⟨a, c, hv, hs, _⟩ := h.fam.own hi
  obtain ⟨b, off, rfl, _⟩ := hs.cells (by omega)
  obtain ⟨rfl, h1, h2, h3, _, h5⟩ := h.set hne hi hj x hv
  exact ⟨b, c, hv, h1, h2, h3, h5⟩
/-- The first i lists written full with a number of their own; of list i the first t places too. -/
def fillF (f : Nat → Int) (A : Nat → List Int) (i t : Nat) : Nat → List Int := fun j => if j < i then List.replicate (A j).length (f j) else if j = i then List.replicate t (f i) ++ (A i).drop t else A j
theorem fillF_start (f : Nat → Int) (A : Nat → List Int) (j : Nat) : fillF f A 0 0 j = A j := by
  unfold fillF
  rw [if_neg (by omega)]
  split
  · next h => rw [h]; rfl
  · rfl
theorem fillF_step (f : Nat → Int) (A : Nat → List Int) (i t : Nat) (ht : t < (A i).length) (j : Nat) : (if j = i then (fillF f A i t i).set t (f i) else fillF f A i t j) = fillF f A i (t + 1) j := by
  unfold fillF
  by_cases h1 : j = i
  · subst h1
    rw [if_pos rfl, if_neg (by omega), if_pos rfl, if_neg (by omega), if_pos rfl]
    exact fill_at _ _ _ ht
  · rw [if_neg h1, if_neg h1, if_neg h1]
theorem fillF_next (f : Nat → Int) (A : Nat → List Int) (i j : Nat) : fillF f A i (A i).length j = fillF f A (i + 1) 0 j := by
  unfold fillF
  by_cases h1 : j < i
  · rw [if_pos h1, if_pos (by omega)]
  · rw [if_neg h1]
    by_cases h2 : j = i
    · subst h2
      rw [if_pos rfl, if_pos (by omega), List.drop_length, List.append_nil]
    · rw [if_neg h2, if_neg (by omega)]
      split
      · next h3 => rw [h3]; simp
      · rfl
theorem fillF_len (f : Nat → Int) (A : Nat → List Int) (i t j : Nat) (ht : t ≤ (A i).length) : (fillF f A i t j).length = (A j).length := by
  unfold fillF
  split
  · exact List.length_replicate
  · split
    · next h => rw [h, List.length_append, List.length_replicate, List.length_drop]; omega
    · rfl
/-- What has grown: behind the first i lists n numbers of their own each, behind list i t of them. -/
def growF (f : Nat → Int) (n i t : Nat) : Nat → List Int := fun j => if j < i then List.replicate n (f j) else if j = i then List.replicate t (f i) else []
theorem growF_start (f : Nat → Int) (n j : Nat) : growF f n 0 0 j = [] := by
  unfold growF
  rw [if_neg (by omega)]
  split <;> rfl
theorem growF_step (f : Nat → Int) (n i t j : Nat) : (if j = i then growF f n i t i ++ [f i] else growF f n i t j) = growF f n i (t + 1) j := by
  unfold growF
  by_cases h1 : j = i
  · subst h1
    rw [if_pos rfl, if_neg (by omega), if_pos rfl, if_neg (by omega), if_pos rfl, List.replicate_succ']
  · rw [if_neg h1, if_neg h1, if_neg h1]
theorem growF_next (f : Nat → Int) (n i j : Nat) : growF f n i n j = growF f n (i + 1) 0 j := by
  unfold growF
  by_cases h1 : j < i
  · rw [if_pos h1, if_pos (by omega)]
  · rw [if_neg h1]
    by_cases h2 : j = i
    · subst h2
      rw [if_pos rfl, if_pos (by omega)]
    · rw [if_neg h2, if_neg (by omega)]
      split <;> rfl
theorem growF_at (f : Nat → Int) (n i t : Nat) : growF f n i t i = List.replicate t (f i) := by
  unfold growF
  rw [if_neg (by omega), if_pos rfl]
theorem NewV.keptN {B B' : Nat} {k : IntKind} {E F T : TypeId} {w w' : World} {v u : Value} {vs : List Value} {xs : List Int} (h : NewV B T w v vs) (hu : NewA B' k E F w u xs) (hne : E ≠ T ∧ F ≠ T) (hg : w.grownBy w' u.ownBlock) : NewV B T w' v vs := by
  refine h.kept hg ?_
  cases hv : v.ownBlock with
  | none => exact .inl rfl
  | some g => exact .inr fun e => h.aside' hu hne g e.symm (by rw [hv])
/-- How a list that was overwritten, and grew, is told. -/
theorem grown_lo {n j k : Nat} {x y : Int} (hk : k < n) : nth (List.replicate n x ++ List.replicate j y) k = x := by
  rw [nth_append_left _ _ _ (by rw [List.length_replicate]; exact hk), nth_get _ _ (by rw [List.length_replicate]; exact hk)]
  simp
theorem grown_hi {n j k : Nat} {x y : Int} (hk : n ≤ k) (hj : k < n + j) : nth (List.replicate n x ++ List.replicate j y) k = y := by
  obtain ⟨i, rfl⟩ : ∃ i, k = n + i := ⟨k - n, by omega⟩
  have := nth_append_right (List.replicate n x) (List.replicate j y) i
  rw [List.length_replicate] at this
  rw [this, nth_get _ _ (by rw [List.length_replicate]; omega)]
  simp
theorem rep_nth {n k : Nat} {x : Int} (hk : k < n) : nth (List.replicate n x) k = x := by
  rw [nth_get _ _ (by rw [List.length_replicate]; exact hk)]
  simp
theorem NewV.by_blocks {B : Nat} {E : TypeId} {w w' : World} {v : Value} {vs : List Value} (h : NewV B E w v vs) (e : ∀ g, v.ownBlock = some g → w'.heap[g]? = w.heap[g]?) : NewV B E w' v vs := by
  rcases h with h | ⟨g, cap, cs, rfl, hb, hh, r⟩
  · exact .inl h
  · exact .inr ⟨g, cap, cs, rfl, hb, (e g rfl).trans hh, r⟩
theorem New.by_blocks {B : Nat} {k : IntKind} {E : TypeId} {w w' : World} {v : Value} {xs : List Int} (h : New B k E w v xs) (e : ∀ g, v.ownBlock = some g → w'.heap[g]? = w.heap[g]?) : New B k E w' v xs := by
  rcases h with h | ⟨g, cap, cs, rfl, hb, hh, r⟩
  · exact .inl h
  · exact .inr ⟨g, cap, cs, rfl, hb, (e g rfl).trans hh, r⟩
/-- What was there stays, but for n lists' blocks. -/
def FrV (V : Nat → Value) (n : Nat) (w w' : World) : Prop := w.heap.size ≤ w'.heap.size ∧ ∀ c, c < w.heap.size → (∀ j, j < n → (V j).ownBlock ≠ some c) → w'.heap[c]? = w.heap[c]?
theorem FrV.refl (V : Nat → Value) (n : Nat) (w : World) : FrV V n w w := ⟨Nat.le_refl _, fun _ _ _ => rfl⟩
theorem FrV.below {V : Nat → Value} {n : Nat} {w w' w'' : World} (h : FrV V n w w') (hb : Below w'.heap.size w' w'') : FrV V n w w'' :=
  ⟨Nat.le_trans h.1 hb.size, fun c hc hj => (hb.block c (Nat.lt_of_lt_of_le hc h.1)).trans (h.2 c hc hj)⟩
theorem FrV.drewN {V : Nat → Value} {n : Nat} {w w' : World} (h : FrV V n w w') (k : Nat) : FrV V n w (w'.drewN k) := h
theorem FrV.grown {V : Nat → Value} {n : Nat} {w w' w'' : World} {row : Option Nat} (h : FrV V n w w') (hg : w'.grownBy w'' row) (hr : ∀ g, row = some g → w.heap.size ≤ g ∨ ∃ j, j < n ∧ (V j).ownBlock = some g) : FrV V n w w'' :=
  ⟨Nat.le_trans h.1 hg.size, fun c hc hj => (hg.block c (Nat.lt_of_lt_of_le hc h.1) (fun e => by
    rcases hr c e.symm with h1 | ⟨j, h1, h2⟩
    · omega
    · exact hj j h1 h2)).trans (h.2 c hc hj)⟩
theorem FrV.row {V : Nat → Value} {n : Nat} {w w' : World} {B : Nat} {E : TypeId} {v : Value} {vs : List Value} (h : FrV V n w w') (hv : NewV B E w v vs) (ha : ∀ j, j < n → ∀ g, (V j).ownBlock = some g → some g ≠ v.ownBlock) : NewV B E w' v vs :=
  NewV.by_blocks hv fun c hc => h.2 c (hv.lt c hc).2 fun j hj e => ha j hj c e hc.symm
end Go.Sg
