/- Whole blocks of cells of whatever kinds: the laws of alloc, load, store, copy in these words. -/
import Derived.Test.YtnlmkikaaifcmaaDoorBaseB
import Derived.Test.YtnlmkikaaifcmaaDoorShaN
import Derived.Deep.MidRow
import Derived.Deep.WholeRow
set_option linter.unusedVariables false
set_option linter.unusedSimpArgs false
namespace Go.Sg
open Go.RowKit

def Rw (w : World) (g : Nat) (E : TypeId) (vs : List Value) : Prop := w.heap[g]? = some (.cells vs.toArray E (0, 0))

section
variable {w w' : World} {g : Nat} {E : TypeId} {vs : List Value}
theorem Rw.lt (h : Rw w g E vs) : g < w.heap.size := (Array.getElem?_eq_some_iff.1 h).1
theorem Rw.cell (h : Rw w g E vs) (i : Nat) {v : Value} (hv : vs[i]? = some v) : w.cell? ⟨g, i, none⟩ = some v := by
  rw [cell_of_row w g i _ E (0, 0) h]; simpa using hv
theorem Rw.free (h : Rw w g E vs) (i : Nat) : w.frozen? ⟨g, i, none⟩ = false := frozen_of_row w g i _ E h
theorem Rw.set (h : Rw w g E vs) (i : Nat) (v : Value) : Rw (w.setCell ⟨g, i, none⟩ v) g E (vs.set i v) := by
  have := heap_setCell_same w g i _ E v h
  rw [Rw, this]; simp
theorem Rw.other (h : Rw w g E vs) {b : Nat} (hb : g ≠ b) (i : Nat) (v : Value) : Rw (w.setCell ⟨b, i, none⟩ v) g E vs := by
  rw [Rw, heap_setCell_other _ _ _ _ hb]; exact h
theorem Rw.below {B : Nat} (h : Rw w g E vs) (hb : Below B w w') (hg : g < B) : Rw w' g E vs := (hb.block g hg).trans h
theorem Rw.keep (h : Rw w g E vs) (hb : Below w.heap.size w w') : Rw w' g E vs := h.below hb h.lt
theorem Rw.grown {row : Option Nat} (h : Rw w g E vs) (hb : w.grownBy w' row) (hg : some g ≠ row) : Rw w' g E vs := (hb.block g h.lt hg).trans h
theorem Rw.alloc (h : Rw w g E vs) (o : Obj) : Rw (w.alloc o) g E vs := (Below.heap_alloc w o g h.lt).trans h
theorem Rw.drewN (h : Rw w g E vs) (n : Nat) : Rw (w.drewN n) g E vs := h
theorem Rw.new (w : World) (E : TypeId) (vs : List Value) : Rw (w.alloc (.cells vs.toArray E)) w.heap.size E vs := Go.heap_alloc_new w _
theorem Rw.range (h : Rw w g E vs) (o : Nat) (cs : List Value) (hc : ∀ j v, cs[j]? = some v → vs[o + j]? = some v) : w.rangeAt g o cs := fun j v hv => h.cell _ (hc j v hv)
end

/-- Made anew: a variable of more cells than one. -/
theorem wpList_alloc_rw {P : Program} {w : World} {ops : Array Oper} {rest : List Oper} {o : Oper} {a : Act} {Q : Exit → Act → World → Prop} (hgd : o.guard = none) (T : TypeId) (ho : o.op = .alloc T)
    (zs : List Value) (n : Nat) (hi : (P.info? T).map (fun i => (i.zero, i.size)) = some (some (.agg zs.toArray), n))
    (h : ∀ w', Rw w' w.heap.size T zs → w'.heap.size = w.heap.size + 1 → Below w.heap.size w w' → wpList P ops Q rest (a.put o.dst (.pointer (some ⟨w.heap.size, 0, none⟩))) w') : wpList P ops Q (o :: rest) a w := by
  refine wpList_plain hgd fun K hK => ?_
  have hz := (zero_of_info hi).1
  have hrun : (Instr.alloc T true (.tuple #[])).run P w = .ok (.pointer (some ⟨w.heap.size, 0, none⟩)) (w.alloc (.cells zs.toArray T)) := by
    simp [Instr.alloc, hz, newVar, newRow, Value.cells]
  unfold Oper.wp
  simp [execOp, ho, hrun, Result.andThen]
  exact hK _ _ (h _ (Rw.new _ _ _) (by simp) ((Below.refl _ _).alloc (Nat.le_refl _) _))

/-- A whole block into a slot. -/
theorem wpList_load_rw {P : Program} {w : World} {ops : Array Oper} {rest : List Oper} {o : Oper} {a : Act} {Q : Exit → Act → World → Prop} (hgd : o.guard = none) (ty : TypeId) (x : Operand) (ho : o.op = .load ty x)
    (g : Nat) (hx : a.eval x = .pointer (some ⟨g, 0, none⟩)) (E : TypeId) (vs : List Value) (d : TypeDesc) (hg : Rw w g E vs)
    (hu : P.underlying ty = some d) (hd : d.isRow = true) (hi : (P.info? ty).map (·.size) = some vs.length)
    (h : wpList P ops Q rest (a.put o.dst (.agg vs.toArray)) w) : wpList P ops Q (o :: rest) a w :=
  wpList_load_mid hgd ty x ho g 0 hx vs d (hg.range 0 vs fun j v hv => by rwa [Nat.zero_add]) hu hd hi h

/-- A part of a block is written. -/
theorem wpList_store_rw {P : Program} {w : World} {ops : Array Oper} {rest : List Oper} {o : Oper} {a : Act} {Q : Exit → Act → World → Prop} (hgd : o.guard = none) (ty : TypeId) (x y : Operand) (ho : o.op = .store ty x y)
    (g off : Nat) (E : TypeId) (vs cs : List Value) (hx : a.eval x = .pointer (some ⟨g, off, none⟩)) (hy : a.eval y = .agg cs.toArray) (hg : Rw w g E vs)
    (hi : (P.info? ty).map (·.size) = some cs.length) (h1 : ∀ v ∈ cs, v.oneCell' = true) (hfit : off + cs.length ≤ vs.length)
    (h : ∀ w', Rw w' g E (vs.take off ++ (cs ++ vs.drop (off + cs.length))) → w.grownBy w' (some g) → w'.heap.size = w.heap.size → wpList P ops Q rest (a.put o.dst undef) w') : wpList P ops Q (o :: rest) a w := by
  refine wpList_plain hgd fun K hK => ?_
  have hr := run_storeCells_at (P := P) g off E cs 0 vs.toArray w hg (by simp; omega) h1
  simp only [Nat.add_zero] at hr
  have hst : (Instr.storeAt ty (.pointer (some ⟨g, off, none⟩)) (.agg cs.toArray)).run P w = .ok () (w.setRow g (vs.take off ++ (cs ++ vs.drop (off + cs.length))).toArray) := by
    cases hq : P.info? ty with
    | none => simp [hq] at hi
    | some i =>
      have hs : cs.length = i.size := by simp [hq] at hi; omega
      simp only [Instr.storeAt, Instr.sureAddr, Sem.run_bind, Sem.run_pure, Result.andThen_ok]
      simp [storeVar, sizeOf, typeInfo, hq, Value.cells, hs]
      simpa [hs] using hr
  unfold Oper.wp execOp
  simp only [ho, hx, hy, Sem.run_bind, Sem.run_pure, Result.andThen_ok, hst]
  exact hK _ _ (h _ (setRow_heap w g _ _ E (0, 0) hg) ⟨rfl, rfl, rfl, by simp, fun j _ hk => setRow_other w g j _ (fun ee => hk (by simp [ee]))⟩ (by simp))

/-- Numbers are copied into the middle of a block. -/
theorem wpList_copy_rw {P : Program} {w : World} {ops : Array Oper} {rest : List Oper} {o : Oper} {a : Act} {Q : Exit → Act → World → Prop} (hgd : o.guard = none) (d s : Operand) (dT sT : TypeId)
    (ho : o.op = .call { callee := .builtin .copy, args := #[d, s], argTypes := #[dT, sT] }) (E : TypeId) (hu : P.underlying dT = some (.slice E)) (hsz : (P.info? E).map (·.size) = some 1)
    (g off dn dc : Nat) (ad : Option Addr) (sn sc : Nat) (hd : a.eval d = .slice (some ⟨g, off, none⟩) dn dc) (hs : a.eval s = .slice ad sn sc) (T : TypeId) (vs : List Value) (k : IntKind) (ys : List Int) (hB : Rw w g T vs) (hy : Cells k w ad ys) (hyn : ys.length = sn)
    (hp : 0 < min sn dn) (hfit : off + min sn dn ≤ vs.length)
    (h : ∀ w', Rw w' g T (vs.take off ++ ((ys.take dn).map (Value.int k) ++ vs.drop (off + min sn dn))) → w.grownBy w' (some g) → w'.heap.size = w.heap.size → wpList P ops Q rest (a.put o.dst (.int .i64 ((min sn dn : Nat) : Int))) w') : wpList P ops Q (o :: rest) a w := by
  refine wpList_plain hgd fun K hK => ?_
  obtain ⟨b, oy, rfl, hc⟩ := hy (by omega)
  have hrun := run_copy_row (P := P) w dT sT o.type E g off dn dc ⟨b, oy, none⟩ sn sc vs.toArray T ((ys.take dn).map (Value.int k)) hu hsz hB
    (by simp [hyn, Nat.min_comm]) (by
      intro j v hv
      have hadd : (⟨b, oy, none⟩ : Addr).add j = ⟨b, oy + j, none⟩ := by unfold Addr.add; split <;> simp_all
      rw [List.getElem?_map, Option.map_eq_some_iff] at hv
      obtain ⟨y, hy1, rfl⟩ := hv
      rw [List.getElem?_take] at hy1
      split at hy1
      · obtain ⟨hj, hje⟩ := List.getElem?_eq_some_iff.1 hy1
        rw [hadd, hc j hj, nth_get _ _ hj, hje]
      · cases hy1) (by simp [hyn, Nat.min_comm]; simpa [Nat.min_comm] using hfit) (by
      intro v hv
      obtain ⟨y, _, rfl⟩ := List.mem_map.1 hv
      rfl)
  unfold Oper.wp
  simp only [execOp, ho, resolve, invoke, builtin, Sem.run_bind, Sem.run_pure, Result.andThen_ok, List.map_toArray, List.map_cons, List.map_nil, hd, hs, hrun]
  have hl : ((ys.take dn).map (Value.int k)).length = min sn dn := by simp [hyn, Nat.min_comm]
  rw [hl]
  refine hK _ _ (h _ ?_ ⟨rfl, rfl, rfl, by simp, fun j _ hk => setRow_other w g j _ (fun ee => hk (by simp [ee]))⟩ (by simp))
  have := setRow_heap w g vs.toArray (((vs.toArray.toList.take off) ++ ((ys.take dn).map (Value.int k) ++ vs.toArray.toList.drop (off + min sn dn))).toArray) T (0, 0) hB
  rw [Rw]
  simpa using this

/-! ### a cut of an array -/
theorem cut_array {P : Program} (w : World) (T E : TypeId) (N : Nat) (hu : P.underlying T = some (.array N E)) (hs : (P.info? E).map (·.size) = some 1) (b o l h : Nat) (h1 : l ≤ h) (h2 : h ≤ N) (h3 : l < N) (L H : Int) (hL : L = l) (hH : H = h) :
    (Instr.sliceAt T (.pointer (some ⟨b, o, none⟩)) (some (.int .i64 L)) (some (.int .i64 H)) none).run P w = .ok (.slice (some ⟨b, o + l, none⟩) (h - l) (N - l)) w := by
  subst hL hH
  cases hq : P.info? E with
  | none => simp [hq] at hs
  | some i =>
    have hz : i.size = 1 := by simpa [hq] using hs
    have eh : ¬ N = l := by omega
    simp [Instr.sliceAt, Instr.sureAddr, run_underlying hu, Instr.sliceBounds, run_sliceBound, sizeOf, typeInfo, hq, hz, eh, h1, h2, Addr.add_mid]
theorem cut_array_l {P : Program} (w : World) (T E : TypeId) (N : Nat) (hu : P.underlying T = some (.array N E)) (hs : (P.info? E).map (·.size) = some 1) (b o l : Nat) (h3 : l < N) (L : Int) (hL : L = l) :
    (Instr.sliceAt T (.pointer (some ⟨b, o, none⟩)) (some (.int .i64 L)) none none).run P w = .ok (.slice (some ⟨b, o + l, none⟩) (N - l) (N - l)) w := by
  subst hL
  cases hq : P.info? E with
  | none => simp [hq] at hs
  | some i =>
    have hz : i.size = 1 := by simpa [hq] using hs
    have eh : ¬ N = l := by omega
    simp [Instr.sliceAt, Instr.sureAddr, run_underlying hu, Instr.sliceBounds, run_sliceBound, sizeOf, typeInfo, hq, hz, eh, Nat.le_of_lt h3, Addr.add_mid]
/-! ### a cut of a slice -/
theorem cut_l {P : Program} (w : World) (T E : TypeId) (hu : P.underlying T = some (.slice E)) (hs : (P.info? E).map (·.size) = some 1) (a : Option Addr) (n cap l : Nat) (h1 : l ≤ n) (L : Int) (hL : L = l) :
    (Instr.sliceAt T (.slice a n cap) (some (.int .i64 L)) none none).run P w = .ok (.slice (if cap = l then a else a.map (·.add l)) (n - l) (cap - l)) w := by
  subst hL
  cases hq : P.info? E with
  | none => simp [hq] at hs
  | some i =>
    have hz : i.size = 1 := by simpa [hq] using hs
    simp [Instr.sliceAt, Instr.slice, run_underlying hu, Instr.sliceBounds, run_sliceBound, sizeOf, typeInfo, hq, hz, h1]
theorem cut_lh {P : Program} (w : World) (T E : TypeId) (hu : P.underlying T = some (.slice E)) (hs : (P.info? E).map (·.size) = some 1) (a : Option Addr) (n cap l h : Nat) (h1 : l ≤ h) (h2 : h ≤ cap) (L H : Int) (hL : L = l) (hH : H = h) :
    (Instr.sliceAt T (.slice a n cap) (some (.int .i64 L)) (some (.int .i64 H)) none).run P w = .ok (.slice (if cap = l then a else a.map (·.add l)) (h - l) (cap - l)) w := by
  subst hL hH
  cases hq : P.info? E with
  | none => simp [hq] at hs
  | some i =>
    have hz : i.size = 1 := by simpa [hq] using hs
    simp [Instr.sliceAt, Instr.slice, run_underlying hu, Instr.sliceBounds, run_sliceBound, sizeOf, typeInfo, hq, hz, h1, h2]
/-- What is left of a slice behind its first numbers. -/
theorem Sl.cut {k : IntKind} {w : World} {a : Option Addr} {cap : Nat} {xs : List Int} (h : Sl k w a cap xs) (j : Nat) (hj : j ≤ xs.length) : Sl k w (if cap = j then a else a.map (·.add j)) (cap - j) (xs.drop j) := by
  refine ⟨by have := h.le; simp; omega, by have := h.max; omega, fun hp => ?_⟩
  simp at hp
  obtain ⟨b, off, rfl, hc⟩ := h.cells (by omega)
  rw [if_neg (by have := h.le; omega)]
  refine ⟨b, off + j, by simp [Addr.add_mid], fun i hi => ?_⟩
  simp at hi
  rw [Nat.add_assoc, hc (j + i) (by omega), nth_drop]
theorem cut_block {a : Option Addr} {cap j b off : Nat} (h : (if cap = j then a else a.map (·.add j)) = some ⟨b, off, none⟩) : ∃ off' sp, a = some ⟨b, off', sp⟩ := by
  split at h
  · exact ⟨off, none, h⟩
  · cases a with
    | none => simp at h
    | some ad =>
      obtain ⟨b', o', sp⟩ := ad
      refine ⟨o', sp, ?_⟩
      simp [Addr.add] at h
      split at h
      · simp at h; simp [h.1]
      · simp at h; simp [h.1]
end Go.Sg
