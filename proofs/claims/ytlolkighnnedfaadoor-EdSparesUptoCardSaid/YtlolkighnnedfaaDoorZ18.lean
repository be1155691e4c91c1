import Derived.Test.YtlolkighnnedfaaDoorZ16
import Derived.Test.YtlolkighnnedfaaDoorZ17
import Derived.Deep.RegionHeld
import Derived.Laws.Rows
/- Structs in memory of one's own: box, alloc, load, store, build, in a list of operations and in a drawn region; results. No program in sight. -/
set_option linter.unusedVariables false
set_option linter.unusedSimpArgs false
namespace Go.Sg
open Go.RowKit
section
variable {P : Program} {w : World} {ops : Array Oper} {rest : List Oper} {o : Oper} {a : Act} {Q : Exit → Act → World → Prop} {K : Act → World → Prop}
theorem wpList_box_agg (hgd : o.guard = none) (T : TypeId) (x : Operand) (ho : o.op = .box T x) (vs : List Value) (hx : a.eval x = .agg vs.toArray)
    (h : ∀ w', Rw w' w.heap.size T vs → Below w.heap.size w w' → wpList P ops Q rest (a.put o.dst (.pointer (some ⟨w.heap.size, 0, none⟩))) w') : wpList P ops Q (o :: rest) a w := by
  refine wpList_plain hgd fun K hK => ?_
  have hrun : (Instr.box T (.agg vs.toArray)).run P w = .ok (.pointer (some ⟨w.heap.size, 0, none⟩)) (w.alloc (.cells vs.toArray T)) := by
    simp [Instr.box, newVar, newRow, Value.cells]
  unfold Oper.wp
  simp [execOp, ho, hx, hrun, Result.andThen]
  exact hK _ _ (h _ (Rw.new _ _ _) ((Below.refl _ _).alloc (Nat.le_refl _) _))
theorem wpList_alloc_agg (hgd : o.guard = none) (T : TypeId) (ho : o.op = .alloc T)
    (zs : List Value) (n : Nat) (hi : (P.info? T).map (fun i => (i.zero, i.size)) = some (some (.agg zs.toArray), n))
    (h : ∀ w', Rw w' w.heap.size T zs → Below w.heap.size w w' → wpList P ops Q rest (a.put o.dst (.pointer (some ⟨w.heap.size, 0, none⟩))) w') : wpList P ops Q (o :: rest) a w :=
  wpList_alloc_rw hgd T ho zs n hi fun w' hk _ hb => h w' hk hb
theorem wp_alloc_agg (T : TypeId) (ho : o.op = .alloc T)
    (zs : List Value) (n : Nat) (hi : (P.info? T).map (fun i => (i.zero, i.size)) = some (some (.agg zs.toArray), n))
    (h : ∀ w', Rw w' w.heap.size T zs → Below w.heap.size w w' → K (a.put o.dst (.pointer (some ⟨w.heap.size, 0, none⟩))) w') : o.wp P a w K Q := by
  have hz := (zero_of_info hi).1
  have hrun : (Instr.alloc T true (.tuple #[])).run P w = .ok (.pointer (some ⟨w.heap.size, 0, none⟩)) (w.alloc (.cells zs.toArray T)) := by
    simp [Instr.alloc, hz, newVar, newRow, Value.cells]
  unfold Oper.wp execOp
  simp only [ho, Sem.run_bind, Sem.run_pure, hrun, Result.andThen_ok]
  exact h _ (Rw.new _ _ _) ((Below.refl _ _).alloc (Nat.le_refl _) _)
theorem wp_store_agg (ty : TypeId) (x y : Operand) (ho : o.op = .store ty x y)
    (g : Nat) (E : TypeId) (vs cs : List Value) (hx : a.eval x = .pointer (some ⟨g, 0, none⟩)) (hy : a.eval y = .agg cs.toArray) (hg : Rw w g E vs)
    (hi : (P.info? ty).map (·.size) = some cs.length) (h1 : ∀ v ∈ cs, v.oneCell' = true) (hl : vs.length = cs.length)
    (h : ∀ w', Rw w' g E cs → w.grownBy w' (some g) → K (a.put o.dst undef) w') : o.wp P a w K Q := by
  have hr := run_storeCells_at (P := P) g 0 E cs 0 vs.toArray w hg (by simp; omega) h1
  simp only [Nat.add_zero, Nat.zero_add, List.take_zero, List.nil_append] at hr
  rw [show cs ++ vs.drop cs.length = cs by rw [List.drop_of_length_le (by omega), List.append_nil]] at hr
  have hst : (Instr.storeAt ty (.pointer (some ⟨g, 0, none⟩)) (.agg cs.toArray)).run P w = .ok () (w.setRow g cs.toArray) := by
    cases hq : P.info? ty with
    | none => simp [hq] at hi
    | some i =>
      have hs : cs.length = i.size := by simp [hq] at hi; omega
      simp only [Instr.storeAt, Instr.sureAddr, Sem.run_bind, Sem.run_pure, Result.andThen_ok]
      simp [storeVar, sizeOf, typeInfo, hq, Value.cells, hs]
      simpa [hs] using hr
  unfold Oper.wp execOp
  simp only [ho, hx, hy, Sem.run_bind, Sem.run_pure, Result.andThen_ok, hst]
  exact h _ (setRow_heap w g _ _ E (0, 0) hg) ⟨rfl, rfl, rfl, by simp, fun j _ hk => setRow_other w g j _ (fun ee => hk (by simp [ee]))⟩
theorem wpList_store_agg (hgd : o.guard = none) (ty : TypeId) (x y : Operand) (ho : o.op = .store ty x y)
    (g : Nat) (E : TypeId) (vs cs : List Value) (hx : a.eval x = .pointer (some ⟨g, 0, none⟩)) (hy : a.eval y = .agg cs.toArray) (hg : Rw w g E vs)
    (hi : (P.info? ty).map (·.size) = some cs.length) (h1 : ∀ v ∈ cs, v.oneCell' = true) (hl : vs.length = cs.length)
    (h : ∀ w', Rw w' g E cs → w.grownBy w' (some g) → wpList P ops Q rest (a.put o.dst undef) w') : wpList P ops Q (o :: rest) a w :=
  wpList_plain hgd fun _ hK => wp_store_agg ty x y ho g E vs cs hx hy hg hi h1 hl fun w' h2 h3 => hK _ _ (h w' h2 h3)
theorem wpList_load_agg (hgd : o.guard = none) (ty : TypeId) (x : Operand) (ho : o.op = .load ty x)
    (g : Nat) (hx : a.eval x = .pointer (some ⟨g, 0, none⟩)) (E : TypeId) (vs : List Value) (d : TypeDesc) (hg : Rw w g E vs)
    (hu : P.underlying ty = some d) (hd : d.isRow = true) (hi : (P.info? ty).map (·.size) = some vs.length)
    (h : wpList P ops Q rest (a.put o.dst (.agg vs.toArray)) w) : wpList P ops Q (o :: rest) a w :=
  wpList_load_rw hgd ty x ho g hx E vs d hg hu hd hi h
end
theorem results_agg {P : Program} {fn : Func} {p : Tmp} {ty E : TypeId} {tmps : Array Value} {w : World} {g : Nat} {vs : List Value} {d : TypeDesc} (h : fn.results = #[.cell p ty])
    (hp : tmps.getD p undef = .pointer (some ⟨g, 0, none⟩)) (hg : Rw w g E vs)
    (hu : P.underlying ty = some d) (hd : (match d with | .struct _ | .array _ _ => true | _ => false) = true) (hi : (P.info? ty).map (·.size) = some vs.length) :
    (results fn tmps).run P w = .ok (.agg vs.toArray) w :=
  results_cell_row h tmps w g E vs.toArray (0, 0) d hp hg hu hd (by simpa using hi)
theorem results_agg_tmp {P : Program} {fn : Func} {p u : Tmp} {ty E : TypeId} {tmps : Array Value} {w : World} {g : Nat} {vs : List Value} {d : TypeDesc} (h : fn.results = #[.cell p ty, .tmp u])
    (hp : tmps.getD p undef = .pointer (some ⟨g, 0, none⟩)) (hg : Rw w g E vs)
    (hu : P.underlying ty = some d) (hd : (match d with | .struct _ | .array _ _ => true | _ => false) = true) (hi : (P.info? ty).map (·.size) = some vs.length) :
    (results fn tmps).run P w = .ok (.tuple #[.agg vs.toArray, tmps.getD u undef]) w := by
  have hp' : tmps[p]?.getD undef = .pointer (some ⟨g, 0, none⟩) := by simpa using hp
  have hl := run_loadVar_row (P := P) w g E ty vs.toArray (0, 0) d hg hu hd (by simpa using hi)
  simp only [results, h]
  simp [Sem.run_bind, Result.andThen, hp', asAddr, hl]
end Go.Sg
