import Derived.Test.YtmbifokiebjmmaaDoorZ5
import Derived.Test.YtmbifokiebjmmaaDoorZ12
import Derived.StillTailTactics
import Derived.Deep.RegionHeld
/- Hashes in regions that draw their order; more laws. No program in sight. -/
set_option linter.unusedVariables false
set_option linter.unusedSimpArgs false
namespace Go.Sg
open Go.RowKit
theorem wpStill_load_D {P : Program} {ops : Array Oper} {w : World} {Q : Act → Prop} {o : Oper} {rest : List Oper} {a : Act} (hw : Region.wanted o (yielded ops a.tmps) = true) (ty : TypeId) (x : Operand) (ho : o.op = .load ty x)
    (b o2 : Nat) (hx : a.eval x = .pointer (some ⟨b, o2, none⟩)) (d : List Int) (hd : Dig d) (td : TypeDesc) (hc : w.rangeAt b o2 (d.map (Value.int .u8)))
    (hu : P.underlying ty = some td) (hr : td.isRow = true) (hi : (P.info? ty).map (·.size) = some 32) (h : wpStill P ops w Q rest (a.put o.dst (dval d))) : wpStill P ops w Q (o :: rest) a := by
  unfold wpStill
  rw [if_pos hw]
  unfold Oper.still execOp
  simp only [ho, hx, Instr.loadAt, Instr.sureAddr, Sem.run_bind, Sem.run_pure, Result.andThen_ok, run_loadVar_mid w b o2 ty _ td hc hu hr (by rw [List.length_map, hd.1]; exact hi), Oper.stillUpon]
  exact ⟨trivial, h⟩
theorem run_eqGuard_D {P : Program} (w : World) (t : TypeId) (x y : Operand) (d d' : List Int) (hm : P.eqGuardType P.depth t = false) : (eqGuard .eql t x y (dval d) (dval d')).run P w = .ok () w := run_eqGuard_agg w .eql t x y _ _ hm
theorem wpStill_eq_D {P : Program} {ops : Array Oper} {w : World} {Q : Act → Prop} {o : Oper} {rest : List Oper} {a : Act} (hw : Region.wanted o (yielded ops a.tmps) = true) (t t2 : TypeId) (x y : Operand) (ho : o.op = .binOp .eql t x y t2)
    (d d' : List Int) (hx : a.eval x = dval d) (hy : a.eval y = dval d') (r : Bool) (he : (binOp .eql t (dval d) (dval d')).run P w = .ok (.bool r) w) (hm : P.eqGuardType P.depth t = false) (h : wpStill P ops w Q rest (a.put o.dst (.bool r))) : wpStill P ops w Q (o :: rest) a := by
  have hg := run_eqGuard_D (P := P) w t x y d d' hm
  unfold wpStill
  rw [if_pos hw]
  unfold Oper.still execOp
  simp only [ho, hx, hy, Sem.run_bind, Sem.run_pure, hg, he, Result.andThen_ok, Oper.stillUpon]
  exact ⟨trivial, h⟩
theorem wpList_eq_D {P : Program} {ops : Array Oper} {w : World} {Q : Exit → Act → World → Prop} {o : Oper} {rest : List Oper} {a : Act} (hgd : o.guard = none) (t t2 : TypeId) (x y : Operand) (ho : o.op = .binOp .eql t x y t2)
    (d d' : List Int) (hx : a.eval x = dval d) (hy : a.eval y = dval d') (r : Bool) (he : (binOp .eql t (dval d) (dval d')).run P w = .ok (.bool r) w) (hm : P.eqGuardType P.depth t = false) (h : wpList P ops Q rest (a.put o.dst (.bool r)) w) : wpList P ops Q (o :: rest) a w := by
  have hg := run_eqGuard_D (P := P) w t x y d d' hm
  refine wpList_plain hgd fun K hK => ?_
  unfold Oper.wp execOp
  simp only [ho, hx, hy, Sem.run_bind, Sem.run_pure, hg, he, Result.andThen_ok]
  exact hK _ _ h
theorem wpList_load_V {P : Program} {w : World} {ops : Array Oper} {rest : List Oper} {o : Oper} {a : Act} {Q : Exit → Act → World → Prop} (hgd : o.guard = none) (ty : TypeId) (x : Operand) (ho : o.op = .load ty x)
    (g : Nat) (E : TypeId) (d : List Int) (hx : a.eval x = .pointer (some ⟨g, 0, none⟩)) (hg : Rw w g E (d.map (Value.int .u8))) (hd : Dig d) (td : TypeDesc)
    (hu : P.underlying ty = some td) (hr : td.isRow = true) (hi : (P.info? ty).map (·.size) = some 32)
    (h : wpList P ops Q rest (a.put o.dst (dval d)) w) : wpList P ops Q (o :: rest) a w :=
  wpList_load_D hgd ty x ho g 0 hx d hd td (hg.range 0 _ fun j v hv => by rwa [Nat.zero_add]) hu hr hi h
theorem wpStill_load_V {P : Program} {ops : Array Oper} {w : World} {Q : Act → Prop} {o : Oper} {rest : List Oper} {a : Act} (hw : Region.wanted o (yielded ops a.tmps) = true) (ty : TypeId) (x : Operand) (ho : o.op = .load ty x)
    (g : Nat) (E : TypeId) (d : List Int) (hx : a.eval x = .pointer (some ⟨g, 0, none⟩)) (hg : Rw w g E (d.map (Value.int .u8))) (hd : Dig d) (td : TypeDesc)
    (hu : P.underlying ty = some td) (hr : td.isRow = true) (hi : (P.info? ty).map (·.size) = some 32) (h : wpStill P ops w Q rest (a.put o.dst (dval d))) : wpStill P ops w Q (o :: rest) a :=
  wpStill_load_D hw ty x ho g 0 hx d hd td (hg.range 0 _ fun j v hv => by rwa [Nat.zero_add]) hu hr hi h
theorem wpList_build0 {P : Program} {w : World} {ops : Array Oper} {rest : List Oper} {o : Oper} {a : Act} {Q : Exit → Act → World → Prop} (hgd : o.guard = none) (t : TypeId) (ho : o.op = .build t #[]) (hb : P.built t [] = some (noDig.map (Value.int .u8)).toArray)
    (h : wpList P ops Q rest (a.put o.dst (dval noDig)) w) : wpList P ops Q (o :: rest) a w := by
  refine wpList_plain hgd fun K hK => ?_
  unfold Oper.wp execOp
  simp only [ho, Array.map_empty, Sem.run_bind, run_build (P := P) w t #[] _ hb, Result.andThen_ok]
  exact hK _ _ h
/-- The row's last hash. -/
theorem SlD.last {w : World} {a : Option Addr} {cap : Nat} {q : List (List Int)} {z : List Int} (h : SlD w a cap (q ++ [z])) : ∃ b off, a = some ⟨b, off, none⟩ ∧ w.rangeAt b (off + q.length * 32) (z.map (Value.int .u8)) := by
  obtain ⟨b, off, ha, hr⟩ := h.range (i := q.length) (by simp)
  refine ⟨b, off, ha, ?_⟩
  simpa using hr
theorem wp_alloc_D {P : Program} {w : World} {o : Oper} {a : Act} {K : Act → World → Prop} {Q : Exit → Act → World → Prop} (T : TypeId) (ho : o.op = .alloc T)
    (hi : (P.info? T).map (fun i => (i.zero, i.size)) = some (some (.agg (noDig.map (Value.int .u8)).toArray), 32))
    (h : ∀ w', Rw w' w.heap.size T (noDig.map (Value.int .u8)) → w'.heap.size = w.heap.size + 1 → Below w.heap.size w w' → K (a.put o.dst (.pointer (some ⟨w.heap.size, 0, none⟩))) w') : o.wp P a w K Q := by
  have hz := (zero_of_info hi).1
  have hrun : (Instr.alloc T true (.tuple #[])).run P w = .ok (.pointer (some ⟨w.heap.size, 0, none⟩)) (w.alloc (.cells (noDig.map (Value.int .u8)).toArray T)) := by
    simp [Instr.alloc, hz, newVar, newRow, Value.cells]
  unfold Oper.wp execOp
  simp only [ho, Sem.run_bind, Sem.run_pure, hrun, Result.andThen_ok]
  exact h _ (Rw.new _ _ _) (by simp) ((Below.refl _ _).alloc (Nat.le_refl _) _)
theorem wp_store_V {P : Program} {w : World} {o : Oper} {a : Act} {K : Act → World → Prop} {Q : Exit → Act → World → Prop} (ty : TypeId) (x y : Operand) (ho : o.op = .store ty x y)
    (g : Nat) (E : TypeId) (d0 d : List Int) (hx : a.eval x = .pointer (some ⟨g, 0, none⟩)) (hy : a.eval y = dval d) (hg : Rw w g E (d0.map (Value.int .u8))) (h0 : Dig d0) (hd : Dig d)
    (hi : (P.info? ty).map (·.size) = some 32)
    (h : ∀ w', Rw w' g E (d.map (Value.int .u8)) → w.grownBy w' (some g) → w'.heap.size = w.heap.size → K (a.put o.dst undef) w') : o.wp P a w K Q := by
  have hr := run_storeCells_at (P := P) g 0 E (d.map (Value.int .u8)) 0 (d0.map (Value.int .u8)).toArray w hg (by simp [h0.1, hd.1]) (fun v hv => by obtain ⟨_, _, rfl⟩ := List.mem_map.1 hv; rfl)
  simp only [Nat.add_zero, Nat.zero_add, List.take_zero, List.nil_append] at hr
  have e : ((d.map (Value.int .u8)) ++ ((d0.map (Value.int .u8)).drop (d.map (Value.int .u8)).length)) = d.map (Value.int .u8) := by
    rw [List.drop_of_length_le (by rw [List.length_map, List.length_map, h0.1, hd.1]; omega), List.append_nil]
  rw [e] at hr
  have hst : (Instr.storeAt ty (.pointer (some ⟨g, 0, none⟩)) (dval d)).run P w = .ok () (w.setRow g (d.map (Value.int .u8)).toArray) := by
    cases hq : P.info? ty with
    | none => simp [hq] at hi
    | some i =>
      have hs : i.size = 32 := by simp [hq] at hi; omega
      simp only [Instr.storeAt, Instr.sureAddr, Sem.run_bind, Sem.run_pure, Result.andThen_ok]
      simp [storeVar, sizeOf, typeInfo, hq, Value.cells, dval, hs, hd.1]
      simpa using hr
  unfold Oper.wp execOp
  simp only [ho, hx, hy, Sem.run_bind, Sem.run_pure, Result.andThen_ok, hst]
  exact h _ (setRow_heap w g _ _ E (0, 0) hg) ⟨rfl, rfl, rfl, by simp, fun j _ hk => setRow_other w g j _ (fun ee => hk (by simp [ee]))⟩ (by simp)
theorem World.rangeAt.keep {w w' : World} {b o : Nat} {d : List Int} (h : w.rangeAt b o (d.map (Value.int .u8))) (hd : Dig d) (hb : Below w.heap.size w w') : w'.rangeAt b o (d.map (Value.int .u8)) := by
  have hlt : b < w.heap.size := by
    have h0 := h 0 (.int .u8 (nth d 0)) (by rw [List.getElem?_map, List.getElem?_eq_getElem (by rw [hd.1]; omega), nth_get _ _ (by rw [hd.1]; omega)]; rfl)
    exact World.block_lt_of_cell? w _ h0
  intro j v hv
  rw [World.cell?_of_block (w := w) (hb.block b hlt)]
  exact h j v hv
theorem World.rangeAt.grown {w w' : World} {b o : Nat} {d : List Int} {row : Option Nat} (h : w.rangeAt b o (d.map (Value.int .u8))) (hd : Dig d) (hg : w.grownBy w' row) (hne : some b ≠ row) : w'.rangeAt b o (d.map (Value.int .u8)) := by
  have hlt : b < w.heap.size := by
    have h0 := h 0 (.int .u8 (nth d 0)) (by rw [List.getElem?_map, List.getElem?_eq_getElem (by rw [hd.1]; omega), nth_get _ _ (by rw [hd.1]; omega)]; rfl)
    exact World.block_lt_of_cell? w _ h0
  intro j v hv
  rw [World.cell?_of_block (w := w) (hg.block b hlt hne)]
  exact h j v hv
theorem yieldsIf_load_D {P : Program} {ops : Array Oper} {S : World → Prop} {op : Oper} {a : Act} (hw : Region.wanted op (yielded ops a.tmps) = true) (ty : TypeId) (x : Operand) (ho : op.op = .load ty x)
    (b o : Nat) (hx : a.eval x = .pointer (some ⟨b, o, none⟩)) (d : List Int) (hd : Dig d) (td : TypeDesc) (hS : ∀ w, S w → w.rangeAt b o (d.map (Value.int .u8)))
    (hu : P.underlying ty = some td) (hr : td.isRow = true) (hi : (P.info? ty).map (·.size) = some 32) : YieldsIf P ops S op (dval d) a :=
  yieldsIf_load_mid hw ty x ho b o hx _ td hS hu hr (by rw [List.length_map, hd.1]; exact hi)
theorem SlD.grown {w w' : World} {a : Option Addr} {cap : Nat} {ds : List (List Int)} {row : Option Nat} (h : SlD w a cap ds) (hg : w.grownBy w' row) (hne : ∀ b off, a = some ⟨b, off, none⟩ → some b ≠ row) : SlD w' a cap ds :=
  ⟨h.dig, h.le, h.max, h.cells.same fun b off ha hlt => hg.block b hlt (hne b off ha)⟩
end Go.Sg
/- Variables that hold hashes, several at once. No program in sight. -/
set_option linter.unusedVariables false
set_option linter.unusedSimpArgs false
namespace Go.Sg
open Go.RowKit
/-- Whole arrays that hold these hashes. -/
def Has (T : TypeId) (w : World) (l : List (Nat × List Int)) : Prop := ∀ p ∈ l, Rw w p.1 T (p.2.map (Value.int .u8)) ∧ Dig p.2
section
variable {T : TypeId} {w w' : World} {l : List (Nat × List Int)}
theorem Has.keep (h : Has T w l) (hb : Below w.heap.size w w') : Has T w' l := fun p hp => ⟨(h p hp).1.keep hb, (h p hp).2⟩
theorem Has.grown {row : Option Nat} (h : Has T w l) (hg : w.grownBy w' row) (hne : ∀ p ∈ l, some p.1 ≠ row) : Has T w' l := fun p hp => ⟨(h p hp).1.grown hg (hne p hp), (h p hp).2⟩
theorem Has.at_ (h : Has T w l) {i g : Nat} {d : List Int} (hi : l[i]? = some (g, d)) : Rw w g T (d.map (Value.int .u8)) := (h (g, d) (List.mem_of_getElem? hi)).1
theorem Has.rng (h : Has T w l) {i g : Nat} {d : List Int} (hi : l[i]? = some (g, d)) : w.rangeAt g 0 (d.map (Value.int .u8)) := (h.at_ hi).range 0 _ fun j v hv => by rwa [Nat.zero_add]
theorem Has.dig (h : Has T w l) {i g : Nat} {d : List Int} (hi : l[i]? = some (g, d)) : Dig d := (h (g, d) (List.mem_of_getElem? hi)).2
end
/-- The variables of a call that began at w0. -/
structure Vars (T : TypeId) (w0 w : World) (l : List (Nat × List Int)) : Prop where
  has : Has T w l
  nd : (l.map Prod.fst).Nodup
  new : ∀ p ∈ l, w0.heap.size ≤ p.1
  below : Below w0.heap.size w0 w
section
variable {T : TypeId} {w0 w w' : World} {l : List (Nat × List Int)}
theorem Vars.start (T : TypeId) (w0 : World) : Vars T w0 w0 [] := ⟨fun _ h => (by cases h), by simp, fun _ h => (by cases h), .refl _ _⟩
theorem Vars.lt (h : Vars T w0 w l) : ∀ p ∈ l, p.1 < w.heap.size := fun p hp => (h.has p hp).1.lt
theorem Vars.keep (h : Vars T w0 w l) (hb : Below w.heap.size w w') : Vars T w0 w' l := ⟨h.has.keep hb, h.nd, h.new, h.below.trans (hb.mono h.below.size)⟩
theorem Vars.add (h : Vars T w0 w l) {d : List Int} (hk : Rw w' w.heap.size T (d.map (Value.int .u8))) (hb : Below w.heap.size w w') (hd : Dig d) : Vars T w0 w' (l ++ [(w.heap.size, d)]) := by
  refine ⟨fun p hp => ?_, ?_, fun p hp => ?_, h.below.trans (hb.mono h.below.size)⟩
  · rcases List.mem_append.1 hp with hp | hp
    · exact h.has.keep hb p hp
    · simp only [List.mem_singleton] at hp; subst hp; exact ⟨hk, hd⟩
  · rw [List.map_append, List.nodup_append]
    refine ⟨h.nd, by simp, fun a ha b hb' => ?_⟩
    obtain ⟨p, hp, rfl⟩ := List.mem_map.1 ha
    simp at hb'
    rw [hb']
    exact Nat.ne_of_lt (h.lt p hp)
  · rcases List.mem_append.1 hp with hp | hp
    · exact h.new p hp
    · simp only [List.mem_singleton] at hp; subst hp; exact h.below.size
theorem Vars.at_ (h : Vars T w0 w l) {i g : Nat} {d : List Int} (hi : l[i]? = some (g, d)) : Rw w g T (d.map (Value.int .u8)) := h.has.at_ hi
theorem Vars.dig (h : Vars T w0 w l) {i g : Nat} {d : List Int} (hi : l[i]? = some (g, d)) : Dig d := h.has.dig hi
theorem Vars.ne (h : Vars T w0 w l) {i j g g' : Nat} {d d' : List Int} (hi : l[i]? = some (g, d)) (hj : l[j]? = some (g', d')) (hij : i ≠ j) : some g ≠ some g' := by
  obtain ⟨h1, e1⟩ := List.getElem?_eq_some_iff.1 hi
  obtain ⟨h2, e2⟩ := List.getElem?_eq_some_iff.1 hj
  intro e
  have e := Option.some.inj e
  have hp := List.pairwise_iff_getElem.1 h.nd
  simp only [List.length_map, List.getElem_map] at hp
  rcases Nat.lt_or_gt_of_ne hij with c | c
  · exact hp i j h1 h2 c (by rw [e1, e2]; exact e)
  · exact hp j i h2 h1 c (by rw [e1, e2]; exact e.symm)
theorem Vars.set (h : Vars T w0 w l) (i : Nat) {g : Nat} {d d' : List Int} (hi : l[i]? = some (g, d)) (hk : Rw w' g T (d'.map (Value.int .u8))) (hg : w.grownBy w' (some g)) (hd : Dig d') : Vars T w0 w' (l.set i (g, d')) := by
  obtain ⟨h1, e1⟩ := List.getElem?_eq_some_iff.1 hi
  have nw := h.new (g, d) (List.mem_of_getElem? hi)
  refine ⟨fun p hp => ?_, ?_, fun p hp => ?_, h.below.grown hg h.below.size (by intro g' hg'; cases hg'; exact nw)⟩
  · obtain ⟨j, hj, rfl⟩ := List.getElem_of_mem hp
    rw [List.length_set] at hj
    rw [List.getElem_set]
    by_cases e : i = j
    · rw [if_pos e]; exact ⟨hk, hd⟩
    · rw [if_neg e]
      have hm := h.has _ (List.getElem_mem hj)
      exact ⟨hm.1.grown hg (h.ne (List.getElem?_eq_getElem hj) hi (fun e' => e e'.symm)), hm.2⟩
  · rw [List.map_set, show (g, d').1 = (g, d).1 from rfl, ← e1, show (l[i]).1 = (l.map Prod.fst)[i]'(by simpa using h1) by simp, List.set_getElem_self]
    exact h.nd
  · rcases List.mem_or_eq_of_mem_set hp with hp | hp
    · exact h.new p hp
    · rw [hp]; exact nw
theorem Vars.drew (h : Vars T w0 w l) (n : Nat) : Vars T w0 (w.drewN n) l := ⟨h.has, h.nd, h.new, below_drewN h.below n⟩
theorem Vars.grown {row : Option Nat} (h : Vars T w0 w l) (hg : w.grownBy w' row) (hnew : ∀ g, row = some g → w0.heap.size ≤ g) (hne : ∀ p ∈ l, some p.1 ≠ row) : Vars T w0 w' l :=
  ⟨h.has.grown hg hne, h.nd, h.new, h.below.grown hg h.below.size hnew⟩
end
theorem Has.sub {T : TypeId} {w : World} {l l' : List (Nat × List Int)} (h : Has T w l) (hs : ∀ p ∈ l', p ∈ l) : Has T w l' := fun p hp => h p (hs p hp)
theorem yieldsIf_eq_D {P : Program} {ops : Array Oper} {S : World → Prop} {op : Oper} {a : Act} (hw : Region.wanted op (yielded ops a.tmps) = true) (t t2 : TypeId) (x y : Operand) (ho : op.op = .binOp .eql t x y t2)
    (d d' : List Int) (hx : a.eval x = dval d) (hy : a.eval y = dval d') (r : Bool) (he : ∀ w, (binOp .eql t (dval d) (dval d')).run P w = .ok (.bool r) w) (hm : P.eqGuardType P.depth t = false) : YieldsIf P ops S op (.bool r) a :=
  .inl ⟨hw, fun w _ => by
    have hg := run_eqGuard_D (P := P) w t x y d d' hm
    unfold execOp
    simp only [ho, hx, hy, Sem.run_bind, Sem.run_pure, hg, he, Result.andThen_ok]⟩
end Go.Sg
/- Rows of hashes, in regions that draw their order: a literal of one, an append. No program in sight. (Printed by gen_wides.py.) -/
set_option linter.unusedVariables false
set_option linter.unusedSimpArgs false
namespace Go.Sg
open Go.RowKit
theorem wp_append_newD {P : Program} {w : World} {o : Oper} {a : Act} {K : Act → World → Prop} {Q : Exit → Act → World → Prop} (s x : Operand) (t : TypeId)
    (ho : o.op = .call { callee := .builtin .append, args := #[s, x], argTypes := #[t, t] }) (B : Nat) (e : TypeId) (z : Value) (hzc : z.cells.size = 32) (ht : P.underlying t = some (.slice e))
    (hi : (P.info? e).map (fun i => (i.zero, i.size, i.bytes)) = some (some z, 32, 32)) (v : Value) (ds : List (List Int)) (hs : a.eval s = v) (hv : NewD B e w v ds)
    (g : Nat) (d : List Int) (hd : Dig d) (hx : a.eval x = .slice (some ⟨g, 0, none⟩) 1 1) (hu : Rw w g e (d.map (Value.int .u8))) (hm : (ds.length + 1) * 32 ≤ 140737488355328) (hB : B ≤ w.heap.size)
    (h : ∀ v' w', NewD B e w' v' (ds ++ [d]) → w.grownBy w' v.ownBlock → (v'.ownBlock = v.ownBlock ∨ ∃ g, v'.ownBlock = some g ∧ w.heap.size ≤ g) → K (a.put o.dst v') w') : o.wp P a w K Q := by
  obtain ⟨v', w', hr, h2, h3, h4⟩ := run_append_newD (P := P) w B t o.type e z hzc ht hi v ds hv ⟨g, 0, none⟩ d hd (fun j x hx => by
    have hadd : (⟨g, 0, none⟩ : Addr).add j = ⟨g, j, none⟩ := by unfold Addr.add; split <;> simp_all
    rw [hadd]
    exact hu.cell j hx) hm hB
  unfold Oper.wp execOp
  simp only [ho, resolve, invoke, builtin, Sem.run_bind, Sem.run_pure, Result.andThen_ok, List.map_toArray, List.map_cons, List.map_nil, hs, hx, hr]
  exact h v' w' h2 h3 h4
theorem wp_one_D {P : Program} {o : Oper} {a : Act} {w : World} {K : Act → World → Prop} {Q : Exit → Act → World → Prop} (t e : TypeId) (x : Operand) (ho : o.op = .buildSlice t 1 #[(0, x)])
    (ht : P.underlying t = some (.slice e)) (hi : (P.info? e).map (fun i => (i.zero, i.size, i.bytes)) = some (some (dval noDig), 32, 32)) (d : List Int) (hd : Dig d) (hx : a.eval x = dval d)
    (h : ∀ w', Rw w' w.heap.size e (d.map (Value.int .u8)) → w'.heap.size = w.heap.size + 1 → Below w.heap.size w w' → K (a.put o.dst (.slice (some ⟨w.heap.size, 0, none⟩) 1 1)) w') : o.wp P a w K Q := by
  obtain ⟨i, hi0, hz, hs, hby⟩ : ∃ i, P.info? e = some i ∧ i.zero = some (dval noDig) ∧ i.size = 32 ∧ i.bytes = 32 := info_parts hi
  have hf : Instr.fill (fun j => some (j * i.size, i.size)) ((Array.range (1 * i.size)).map ((dval noDig).cells[· % (dval noDig).cells.size]!)) ((#[(0, x)] : Array (Nat × Operand)).map fun (j, y) => (j, a.eval y)).toList = some (d.map (Value.int .u8)).toArray := by
    have hfw := Great.fill_whole (s := 32) (by omega) [dval d] ((Array.range (1 * i.size)).map ((dval noDig).cells[· % (dval noDig).cells.size]!)) (by intro v hv; simp at hv; subst hv; simp [dval, Value.cells, hd.1]) (by simp [hs])
    simp only [hs] at hfw ⊢
    simpa [hx, dval, Value.cells] using hfw
  refine wp_buildSlice t e 1 _ ho _ i (dval noDig) ht hi0 hz (by rw [hs]; omega) (by rw [hs]; omega) hf ?_
  exact h _ (Rw.new _ _ _) (by simp) ((Below.refl _ _).alloc (Nat.le_refl _) _)
end Go.Sg
