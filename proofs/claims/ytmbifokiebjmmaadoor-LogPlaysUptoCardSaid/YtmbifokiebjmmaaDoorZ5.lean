import Derived.Test.YtmbifokiebjmmaaDoorZ4
import Derived.ChangeKeysEq
/- Rows of hashes, further: make, a literal of one, a store, a load, equality. No program in sight. -/
set_option linter.unusedVariables false
set_option linter.unusedSimpArgs false
namespace Go.Sg
open Go.RowKit

theorem madeCells_zeros (n : Nat) : (madeCells (dval noDig).cells n).toList = List.replicate n (Value.int .u8 0) := by
  apply List.ext_getElem
  · simp [madeCells]
  · intro j h1 h2
    have hj : j < n := by simpa [madeCells] using h1
    have hz : (dval noDig).cells = (List.replicate 32 (Value.int .u8 0)).toArray := by simp [dval, noDig, Value.cells]
    have hm : j % 32 < 32 := Nat.mod_lt _ (by omega)
    simp only [madeCells, hz, List.size_toArray, List.length_replicate, Array.toList_map, Array.toList_range, List.getElem_map, List.getElem_range, List.getElem_replicate]
    rw [getElem!_pos _ _ (by simp only [List.size_toArray, List.length_replicate]; exact hm), List.getElem_toArray, List.getElem_replicate]
theorem flat_zeros (n : Nat) : (List.replicate n noDig).flatten = List.replicate (32 * n) 0 := by
  induction n with
  | zero => rfl
  | succ n ih =>
    rw [List.replicate_succ, List.flatten_cons, ih, noDig, List.replicate_append_replicate, show 32 + 32 * n = 32 * (n + 1) by omega]
theorem wpList_make_D {P : Program} (w : World) {ops : Array Oper} {rest : List Oper} {o : Oper} {a : Act} {Q : Exit → Act → World → Prop}
    (hg : o.guard = none) (l c : Operand) (t : TypeId) (hop : o.op = Op.makeSlice t l c) (e : TypeId) (ht : P.underlying t = some (.slice e))
    (hi : (P.info? e).map (fun i => (i.zero, i.size, i.bytes)) = some (some (dval noDig), 32, 32))
    (n : Nat) (L C : Int) (hl : a.eval l = .int .i64 L) (hc : a.eval c = .int .i64 C) (hL : L = n) (hC : C = n) (hb : n * 32 ≤ 281474976710656)
    (hK : ∀ w', NewD w.heap.size e w' (.slice (some ⟨w.heap.size, 0, none⟩) n n) (List.replicate n noDig) → w'.heap.size = w.heap.size + 1 → Below w.heap.size w w' → wpList P ops Q rest (a.put o.dst (.slice (some ⟨w.heap.size, 0, none⟩) n n)) w') :
    wpList P ops Q (o :: rest) a w := by
  refine wpList_plain hg fun K hK' => ?_
  obtain ⟨i, hi0, hz, hs, hby⟩ : ∃ i, P.info? e = some i ∧ i.zero = some (dval noDig) ∧ i.size = 32 ∧ i.bytes = 32 := info_parts hi
  have hr := run_make (P := P) w t e i (dval noDig) ht hi0 hz .i64 .i64 n n (by omega) (by omega) (by rw [hby]; omega) (by omega)
  subst hL hC
  simp only [Int.toNat_natCast, hs] at hr
  unfold Oper.wp
  simp [execOp, hop, hl, hc, hr, Result.andThen]
  refine hK' _ _ (hK _ ⟨fun d hd => by rw [List.eq_of_mem_replicate hd]; exact dig_no, .inr ⟨w.heap.size, n, _, by simp, Nat.le_refl _, Go.heap_alloc_new w _, by simp, by simp [size_madeCells], by omega, ?_⟩⟩ (by simp) ((Below.refl _ _).alloc (Nat.le_refl _) _))
  rw [madeCells_zeros, flat_zeros, List.length_replicate, List.map_replicate, List.take_replicate]
  congr 1
  omega
/-- A literal of one hash. -/
theorem wpList_one_D {P : Program} {ops : Array Oper} {rest : List Oper} {o : Oper} {a : Act} {w : World} {Q : Exit → Act → World → Prop} (hg : o.guard = none) (t e : TypeId) (x : Operand) (ho : o.op = .buildSlice t 1 #[(0, x)])
    (ht : P.underlying t = some (.slice e)) (hi : (P.info? e).map (fun i => (i.zero, i.size, i.bytes)) = some (some (dval noDig), 32, 32)) (d : List Int) (hd : Dig d) (hx : a.eval x = dval d)
    (h : ∀ w', Rw w' w.heap.size e (d.map (Value.int .u8)) → w'.heap.size = w.heap.size + 1 → Below w.heap.size w w' → wpList P ops Q rest (a.put o.dst (.slice (some ⟨w.heap.size, 0, none⟩) 1 1)) w') : wpList P ops Q (o :: rest) a w := by
  obtain ⟨i, hi0, hz, hs, hby⟩ : ∃ i, P.info? e = some i ∧ i.zero = some (dval noDig) ∧ i.size = 32 ∧ i.bytes = 32 := info_parts hi
  have hf : Instr.fill (fun j => some (j * i.size, i.size)) ((Array.range (1 * i.size)).map ((dval noDig).cells[· % (dval noDig).cells.size]!)) ((#[(0, x)] : Array (Nat × Operand)).map fun (j, y) => (j, a.eval y)).toList = some (d.map (Value.int .u8)).toArray := by
    have hfw := Great.fill_whole (s := 32) (by omega) [dval d] ((Array.range (1 * i.size)).map ((dval noDig).cells[· % (dval noDig).cells.size]!)) (by intro v hv; simp at hv; subst hv; simp [dval, Value.cells, hd.1]) (by simp [hs])
    simp only [hs] at hfw ⊢
    simpa [hx, dval, Value.cells] using hfw
  refine wpList_buildSlice hg t e 1 _ ho _ i (dval noDig) ht hi0 hz (by rw [hs]; omega) (by rw [hs]; omega) hf ?_
  exact h _ (Rw.new _ _ _) (by simp) ((Below.refl _ _).alloc (Nat.le_refl _) _)
/-- A hash into a place of a row of the call's own. -/
theorem wpList_store_D {P : Program} {w : World} {ops : Array Oper} {rest : List Oper} {o : Oper} {a : Act} {Q : Exit → Act → World → Prop} (hgd : o.guard = none) (ty : TypeId) (x y : Operand) (ho : o.op = .store ty x y)
    (hi : (P.info? ty).map (·.size) = some 32) (B : Nat) (E : TypeId) (g n cap : Nat) (ds : List (List Int)) (hv : NewD B E w (.slice (some ⟨g, 0, none⟩) n cap) ds) (i : Nat) (hlt : i < ds.length) (d : List Int) (hd : Dig d)
    (hx : a.eval x = .pointer (some ⟨g, i * 32, none⟩)) (hy : a.eval y = dval d)
    (h : ∀ w', NewD B E w' (.slice (some ⟨g, 0, none⟩) n cap) (ds.set i d) → w.grownBy w' (some g) → w'.heap.size = w.heap.size → wpList P ops Q rest (a.put o.dst undef) w') : wpList P ops Q (o :: rest) a w := by
  have hdig := hv.dig
  have hfl := flat_len hdig
  obtain ⟨g', cs, hga, hbg, hh, h1, h2, h4⟩ := hv.heap (by omega)
  simp only [Option.some.injEq, Addr.mk.injEq, and_true] at hga
  subst hga
  have hn : n = ds.length := by
    obtain ⟨a', c', e, _⟩ := hv.sl
    simp only [Value.slice.injEq] at e
    exact e.2.1
  have hcm : cap ≤ 9223372036854775807 := by
    obtain ⟨a', c', e, s⟩ := hv.sl
    simp only [Value.slice.injEq] at e
    rw [e.2.2]; exact s.max
  have hcl : cs.toList.length = cs.size := by simp
  refine wpList_store_rw hgd ty x y ho g (i * 32) E cs.toList (d.map (Value.int .u8)) hx hy (by rw [Rw]; simpa using hh) (by rw [List.length_map, hd.1]; exact hi) (fun v hv => by obtain ⟨_, _, rfl⟩ := List.mem_map.1 hv; rfl) (by rw [List.length_map, hd.1, hcl]; omega) ?_
  intro w' hw' hg' hs'
  refine h w' ⟨fun z hz => ?_, .inr ⟨g, cap, _, by rw [List.length_set, hn], hbg, hw', by rw [List.length_set]; exact h1, ?_, hcm, ?_⟩⟩ hg' hs'
  · rcases List.mem_or_eq_of_mem_set hz with hz | rfl
    · exact hdig z hz
    · exact hd
  · simp [hd.1]; omega
  · rw [List.length_set, flat_set hdig hd hlt, List.map_append, List.map_append, List.map_take, List.map_drop, ← h4, List.length_map, hd.1]
    rw [List.take_append, List.take_append, List.take_take, List.length_take, hcl, List.length_map, hd.1, List.take_take, List.drop_take]
    congr 1
    · congr 1; omega
    · congr 1
      · rw [List.take_of_length_le]
        rw [List.length_map, hd.1]; omega
      · rw [show i * 32 + 32 = 32 * i + 32 by omega]
        congr 1
        omega
theorem wpList_load_D {P : Program} {w : World} {ops : Array Oper} {rest : List Oper} {o : Oper} {a : Act} {Q : Exit → Act → World → Prop} (hgd : o.guard = none) (ty : TypeId) (x : Operand) (ho : o.op = .load ty x)
    (b o2 : Nat) (hx : a.eval x = .pointer (some ⟨b, o2, none⟩)) (d : List Int) (hd : Dig d) (td : TypeDesc) (hc : w.rangeAt b o2 (d.map (Value.int .u8)))
    (hu : P.underlying ty = some td) (hr : td.isRow = true) (hi : (P.info? ty).map (·.size) = some 32)
    (h : wpList P ops Q rest (a.put o.dst (dval d)) w) : wpList P ops Q (o :: rest) a w :=
  wpList_load_mid hgd ty x ho b o2 hx _ td hc hu hr (by rw [List.length_map, hd.1]; exact hi) h
/-- A whole variable is written. -/
theorem wpList_store_V {P : Program} {w : World} {ops : Array Oper} {rest : List Oper} {o : Oper} {a : Act} {Q : Exit → Act → World → Prop} (hgd : o.guard = none) (ty : TypeId) (x y : Operand) (ho : o.op = .store ty x y)
    (g : Nat) (E : TypeId) (d0 d : List Int) (hx : a.eval x = .pointer (some ⟨g, 0, none⟩)) (hy : a.eval y = dval d) (hg : Rw w g E (d0.map (Value.int .u8))) (h0 : Dig d0) (hd : Dig d)
    (hi : (P.info? ty).map (·.size) = some 32)
    (h : ∀ w', Rw w' g E (d.map (Value.int .u8)) → w.grownBy w' (some g) → w'.heap.size = w.heap.size → wpList P ops Q rest (a.put o.dst undef) w') : wpList P ops Q (o :: rest) a w :=
  wpList_store_rw hgd ty x y ho g 0 E (d0.map (Value.int .u8)) (d.map (Value.int .u8)) hx hy hg (by rw [List.length_map, hd.1]; exact hi) (fun v hv => by obtain ⟨_, _, rfl⟩ := List.mem_map.1 hv; rfl) (by simp [h0.1, hd.1])
    fun w' hw' hg' hs' => h w' (by
      have e : (d0.map (Value.int .u8)).take 0 ++ (d.map (Value.int .u8) ++ (d0.map (Value.int .u8)).drop (0 + (d.map (Value.int .u8)).length)) = d.map (Value.int .u8) := by
        simp only [List.take_zero, List.nil_append, List.length_map, hd.1]
        rw [List.drop_of_length_le (by rw [List.length_map, h0.1]; omega), List.append_nil]
      rwa [e] at hw') hg' hs'

/-- A hash that came in gets a variable of its own. -/
theorem wpList_box_D {P : Program} {w : World} {ops : Array Oper} {rest : List Oper} {o : Oper} {a : Act} {Q : Exit → Act → World → Prop} (hgd : o.guard = none) (T : TypeId) (x : Operand) (ho : o.op = .box T x) (d : List Int) (hx : a.eval x = dval d)
    (h : ∀ w', Rw w' w.heap.size T (d.map (Value.int .u8)) → w'.heap.size = w.heap.size + 1 → Below w.heap.size w w' → wpList P ops Q rest (a.put o.dst (.pointer (some ⟨w.heap.size, 0, none⟩))) w') : wpList P ops Q (o :: rest) a w := by
  refine wpList_plain hgd fun K hK => ?_
  have hrun : (Instr.box T (dval d)).run P w = .ok (.pointer (some ⟨w.heap.size, 0, none⟩)) (w.alloc (.cells (d.map (Value.int .u8)).toArray T)) := by
    simp [Instr.box, newVar, newRow, Value.cells, dval]
  unfold Oper.wp
  simp [execOp, ho, hx, hrun, Result.andThen]
  exact hK _ _ (h _ (Rw.new _ _ _) (by simp) ((Below.refl _ _).alloc (Nat.le_refl _) _))

/-! ### equality -/
theorem nth_v8 (d : List Int) (i : Nat) (hi : i < d.length) : (d.map (Value.int .u8)).toArray[i]? = some (.int .u8 (nth d i)) := by
  rw [List.getElem?_toArray, List.getElem?_map, List.getElem?_eq_getElem hi, nth_get _ _ hi]
  rfl
theorem run_eqItems_dig {P : Program} (w : World) (d : Nat) (e : TypeId) (he : P.underlying e = some (.int .u8)) (hp : P.plainKey e = true) (a b : List Int) (ha : a.length = 32) (hb : b.length = 32) : ∀ is : List Nat, (∀ i ∈ is, i < 32) →
    (Op.eqItems (d + 1) e 1 (a.map (Value.int .u8)).toArray (b.map (Value.int .u8)).toArray is).run P w = .ok (is.all fun i => nth a i == nth b i) w
  | [], _ => by simp [Op.eqItems]
  | i :: is, h => by
    have hi := h i (List.mem_cons_self ..)
    have p1 := run_part_plain (P := P) w hp (nth_v8 a i (by omega))
    have p2 := run_part_plain (P := P) w hp (nth_v8 b i (by omega))
    have ih := run_eqItems_dig w d e he hp a b ha hb is fun j hj => h j (List.mem_cons_of_mem _ hj)
    simp only [Op.eqItems, Nat.mul_one, Sem.run_bind, p1, p2, Result.andThen_ok, run_equalIn_int w d e .u8 .u8 _ _ he, List.all_cons]
    cases h0 : (nth a i == nth b i)
    · simp
    · simpa using ih
theorem run_eq_dig {P : Program} (w : World) (t e : TypeId) (ht : P.underlying t = some (.array 32 e)) (he : P.underlying e = some (.int .u8)) (hc : P.cellsOf e = 1) (hp : P.plainKey e = true) (a b : List Int) (ha : Dig a) (hb : Dig b) :
    (binOp .eql t (dval a) (dval b)).run P w = .ok (.bool (decide (a = b))) w := by
  obtain ⟨i, hi⟩ := info_of_underlying he
  unfold dval
  rw [run_eql_struct, run_equalIn_array w 9999 _ _ ht hi, hc, run_eqItems_dig w 9998 e he hp a b ha.1 hb.1 _ (fun i hi => List.mem_range.1 hi), Result.andThen_ok]
  congr 2
  by_cases h : a = b
  · subst h
    simp
  · rw [decide_eq_false h, List.all_eq_false]
    have : ¬ ∀ i, i < a.length → nth a i = nth b i := fun hh => h (ext_nth _ _ (by rw [ha.1, hb.1]) hh)
    simp only [Classical.not_forall] at this
    obtain ⟨i, hi, hne⟩ := this
    exact ⟨i, List.mem_range.2 (by rw [← ha.1]; exact hi), by simpa using hne⟩
end Go.Sg
namespace Go.Sg
open Go.RowKit
theorem run_load_var {P : Program} {w : World} {g : Nat} {E ty : TypeId} {d : List Int} {td : TypeDesc} (hg : Rw w g E (d.map (Value.int .u8))) (hd : Dig d) (hu : P.underlying ty = some td) (hr : td.isRow = true) (hi : (P.info? ty).map (·.size) = some 32) : (loadVar ty ⟨g, 0, none⟩).run P w = .ok (dval d) w :=
  run_loadVar_mid (P := P) w g 0 ty (d.map (Value.int .u8)) td (hg.range 0 _ fun j v hv => by rwa [Nat.zero_add]) hu hr (by rw [List.length_map, hd.1]; exact hi)
theorem results_dig {P : Program} {fn : Func} {p : Tmp} {E ty : TypeId} (h : fn.results = #[.cell p ty]) {tmps : Array Value} {w : World} {g : Nat} {d : List Int} {td : TypeDesc} (ht : tmps.getD p undef = .pointer (some ⟨g, 0, none⟩)) (hg : Rw w g E (d.map (Value.int .u8))) (hd : Dig d)
    (hu : P.underlying ty = some td) (hr : td.isRow = true) (hi : (P.info? ty).map (·.size) = some 32) : (results fn tmps).run P w = .ok (dval d) w := by
  have hl := run_load_var hg hd hu hr hi
  have ht2 : tmps[p]?.getD undef = .pointer (some ⟨g, 0, none⟩) := by simpa using ht
  simp only [results, h]
  simp [Sem.run_bind, Result.andThen, ht2, asAddr, hl]
theorem results_dig_tmp {P : Program} {fn : Func} {p u : Tmp} {E ty : TypeId} (h : fn.results = #[.cell p ty, .tmp u]) {tmps : Array Value} {w : World} {g : Nat} {d : List Int} {td : TypeDesc} (ht : tmps.getD p undef = .pointer (some ⟨g, 0, none⟩)) (hg : Rw w g E (d.map (Value.int .u8))) (hd : Dig d)
    (hu : P.underlying ty = some td) (hr : td.isRow = true) (hi : (P.info? ty).map (·.size) = some 32) : (results fn tmps).run P w = .ok (.tuple #[dval d, tmps.getD u undef]) w := by
  have hl := run_load_var hg hd hu hr hi
  have ht2 : tmps[p]?.getD undef = .pointer (some ⟨g, 0, none⟩) := by simpa using ht
  simp only [results, h]
  simp [Sem.run_bind, Result.andThen, ht2, asAddr, hl]
theorem results_dig2_tmp {P : Program} {fn : Func} {p q u : Tmp} {E ty : TypeId} (h : fn.results = #[.cell p ty, .cell q ty, .tmp u]) {tmps : Array Value} {w : World} {g g' : Nat} {d d' : List Int} {td : TypeDesc} (ht : tmps.getD p undef = .pointer (some ⟨g, 0, none⟩)) (ht' : tmps.getD q undef = .pointer (some ⟨g', 0, none⟩)) (hg : Rw w g E (d.map (Value.int .u8))) (hg' : Rw w g' E (d'.map (Value.int .u8))) (hd : Dig d) (hd' : Dig d')
    (hu : P.underlying ty = some td) (hr : td.isRow = true) (hi : (P.info? ty).map (·.size) = some 32) : (results fn tmps).run P w = .ok (.tuple #[dval d, dval d', tmps.getD u undef]) w := by
  have hl := run_load_var hg hd hu hr hi
  have hl' := run_load_var hg' hd' hu hr hi
  have ht2 : tmps[p]?.getD undef = .pointer (some ⟨g, 0, none⟩) := by simpa using ht
  have ht3 : tmps[q]?.getD undef = .pointer (some ⟨g', 0, none⟩) := by simpa using ht'
  simp only [results, h]
  simp [Sem.run_bind, Result.andThen, ht2, ht3, asAddr, hl, hl']
end Go.Sg
