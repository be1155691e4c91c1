/- Lists of bytes of the call's own, each with marks behind it in its spare room, laid in a row. No program in sight. -/
import Derived.Test.YtmbifokiebjmmaaDoorRowsB
import Derived.Test.YtmbifokiebjmmaaDoorShaH
set_option linter.unusedVariables false
set_option linter.unusedSimpArgs false
namespace Go.Sg
open Go.RowKit

/-- One number more, where there is room. -/
theorem run_append_in {P : Program} (w : World) (t ty e : TypeId) (k : IntKind) (bytes : Nat) (ht : P.underlying t = some (.slice e)) (hi : (P.info? e).map (fun i => (i.zero, i.size, i.bytes)) = some (some (.int k 0), 1, bytes))
    (g n c : Nat) (xs : List Int) (h : Blk w g k e xs) (hc : c = xs.length) (hn : n < xs.length) (a : Option Addr) (c' : Nat) (x : Int) (hx : Cells k w a [x]) :
    ∃ w', (Builtin.append_ #[t, t] ty #[.slice (some ⟨g, 0, none⟩) n c, .slice a 1 c']).run P w = .ok (.slice (some ⟨g, 0, none⟩) (n + 1) c) w' ∧ Blk w' g k e (xs.set n x) ∧ w.grownBy w' (some g) ∧ w'.heap.size = w.heap.size := by
  obtain ⟨i, hi0, hz, hs, hby⟩ := info1 hi
  obtain ⟨b, off, rfl, hcc⟩ := hx (by simp)
  have hnews : ∀ (j : Nat) (v : Value), ([Value.int k x])[j]? = some v → w.cell? ((⟨b, off, none⟩ : Addr).add j) = some v := by
    intro j v hv
    have hj : j = 0 := by
      have := (List.getElem?_eq_some_iff.1 hv).1
      simp at this; exact this
    subst hj
    have hadd : (⟨b, off, none⟩ : Addr).add 0 = ⟨b, off + 0, none⟩ := by unfold Addr.add; split <;> simp_all
    rw [hadd, hcc 0 (by simp)]
    simpa [nth] using hv
  have hr := run_append_room (P := P) w t ty e i ht hi0 g n c _ h ⟨b, off, none⟩ 1 c' [.int k x] (by simp [hs]) hnews (by intro u hu; simp at hu; subst hu; rfl) (by omega) (by simp [hs]; omega)
  refine ⟨_, hr, ?_, ⟨rfl, rfl, rfl, by simp, fun j _ hk => setRow_other w g j _ (fun ee => hk (by simp [ee]))⟩, by simp⟩
  rw [Blk, setRow_heap w g _ _ e (0, 0) h]
  congr 2
  apply Array.toList_inj.1
  simp only [hs, Nat.mul_one]
  rw [List.set_eq_take_append_cons_drop, if_pos hn]
  simp
theorem wpList_append_in {P : Program} {w : World} {ops : Array Oper} {rest : List Oper} {o : Oper} {a : Act} {Q : Exit → Act → World → Prop} (hgd : o.guard = none) (s x : Operand) (t : TypeId)
    (ho : o.op = .call { callee := .builtin .append, args := #[s, x], argTypes := #[t, t] }) (e : TypeId) (k : IntKind) (bytes : Nat) (ht : P.underlying t = some (.slice e)) (hi : (P.info? e).map (fun i => (i.zero, i.size, i.bytes)) = some (some (.int k 0), 1, bytes))
    (g n c : Nat) (xs : List Int) (hs : a.eval s = .slice (some ⟨g, 0, none⟩) n c) (h : Blk w g k e xs) (hc : c = xs.length) (hn : n < xs.length) (ad : Option Addr) (c' : Nat) (y : Int) (hx : a.eval x = .slice ad 1 c') (hy : Cells k w ad [y])
    (hK : ∀ w', Blk w' g k e (xs.set n y) → w.grownBy w' (some g) → w'.heap.size = w.heap.size → wpList P ops Q rest (a.put o.dst (.slice (some ⟨g, 0, none⟩) (n + 1) c)) w') : wpList P ops Q (o :: rest) a w := by
  refine wpList_plain hgd fun K hK' => ?_
  obtain ⟨w', hr, h1, h2, h3⟩ := run_append_in (P := P) w t o.type e k bytes ht hi g n c xs h hc hn ad c' y hy
  unfold Oper.wp execOp
  simp only [ho, resolve, invoke, builtin, Sem.run_bind, Sem.run_pure, Result.andThen_ok, List.map_toArray, List.map_cons, List.map_nil, hs, hx, hr]
  exact hK' _ _ (hK w' h1 h2 h3)
theorem wpList_make_room {P : Program} (w : World) {ops : Array Oper} {rest : List Oper} {o : Oper} {a : Act} {Q : Exit → Act → World → Prop}
    (hg : o.guard = none) (l c : Operand) (t : TypeId) (hop : o.op = Op.makeSlice t l c) (e : TypeId) (k : IntKind) (bytes : Nat) (ht : P.underlying t = some (.slice e))
    (hi : (P.info? e).map (fun i => (i.zero, i.size, i.bytes)) = some (some (.int k 0), 1, bytes))
    (n : Nat) (C : Int) (hl : a.eval l = .int .i64 0) (hc : a.eval c = .int .i64 C) (hC : C = n) (hb : bytes * n ≤ 281474976710656) (h63 : n ≤ 9223372036854775807)
    (hK : ∀ w', Blk w' w.heap.size k e (List.replicate n 0) → w'.heap.size = w.heap.size + 1 → Below w.heap.size w w' → wpList P ops Q rest (a.put o.dst (.slice (some ⟨w.heap.size, 0, none⟩) 0 n)) w') :
    wpList P ops Q (o :: rest) a w := by
  refine wpList_plain hg fun K hK' => ?_
  obtain ⟨i, hi0, hz, hs, hby⟩ := info1 hi
  have hb' : (bytes : Int) * (n : Int) ≤ 281474976710656 := by
    have h : ((bytes * n : Nat) : Int) ≤ 281474976710656 := by omega
    rwa [Int.natCast_mul] at h
  have hr := run_make (P := P) w t e i (.int k 0) ht hi0 hz .i64 .i64 0 n (by omega) (by omega) (by rw [hby]; exact hb') (by omega)
  simp only [Int.toNat_natCast, hs, Nat.mul_one, Int.toNat_zero] at hr
  subst hC
  unfold Oper.wp
  simp [execOp, hop, hl, hc, hr, Result.andThen]
  refine hK' _ _ (hK _ ?_ (by simp) ((Below.refl _ _).alloc (Nat.le_refl _) _))
  rw [Blk, heap_alloc_new]
  congr 2
  apply Array.toList_inj.1
  rw [show Value.cells (.int k 0) = #[.int k 0] from rfl, toList_madeCells_one]
  simp

/-- The mark behind list i. -/
def mk36 (i : Nat) : Int := 1 + ((i % 250 : Nat) : Int)
theorem mk36_rng (i : Nat) : 0 ≤ mk36 i ∧ mk36 i ≤ 255 := by unfold mk36; omega
def mks36 (i : Nat) : List Int := List.replicate 70 (mk36 i)
theorem mks36_len (i : Nat) : (mks36 i).length = 70 := List.length_replicate
def mval (G : Nat → Nat) (ss : List (List Int)) (j : Nat) : Value := .slice (some ⟨G j, 0, none⟩) (ss.getD j []).length ((ss.getD j []).length + 70)
/-- A row of the call's own lists of bytes, each with marks behind it. -/
structure MkL (B : Nat) (E T : TypeId) (w : World) (l : Value) (G : Nat → Nat) (ss : List (List Int)) : Prop where
  row : NewV B T w l ((List.range ss.length).map (mval G ss))
  blk : ∀ j, j < ss.length → B ≤ G j ∧ Blk w (G j) .u8 E (ss.getD j [] ++ mks36 j)
  apart : ∀ i j, i < ss.length → j < ss.length → i ≠ j → G i ≠ G j
section
variable {B : Nat} {E T : TypeId} {w w' : World} {l : Value} {G : Nat → Nat} {ss : List (List Int)}
theorem MkL.nil (B : Nat) (E T : TypeId) (w : World) (G : Nat → Nat) : MkL B E T w (.slice none 0 0) G [] := ⟨.nil _ _ _, fun j h => by simp at h, fun i j h => by simp at h⟩
theorem MkL.keep (h : MkL B E T w l G ss) (hb : Below w.heap.size w w') : MkL B E T w' l G ss := ⟨h.row.keep hb, fun j hj => ⟨(h.blk j hj).1, (h.blk j hj).2.below hb (h.blk j hj).2.lt⟩, h.apart⟩
theorem MkL.grown {row : Option Nat} (h : MkL B E T w l G ss) (hg : w.grownBy w' row) (h1 : l.ownBlock = none ∨ l.ownBlock ≠ row) (h2 : ∀ j, j < ss.length → some (G j) ≠ row) : MkL B E T w' l G ss := ⟨h.row.kept hg h1, fun j hj => ⟨(h.blk j hj).1, (h.blk j hj).2.grown hg (h2 j hj)⟩, h.apart⟩
theorem MkL.sl (h : MkL B E T w l G ss) : ∃ a c, l = .slice a ss.length c := by
  obtain ⟨a, c, e⟩ := h.row.sl
  rw [List.length_map, List.length_range] at e
  exact ⟨a, c, e⟩
theorem getD_snoc_lt {α : Type} {ss : List α} {s d : α} {j : Nat} (h : j < ss.length) : (ss ++ [s]).getD j d = ss.getD j d := by
  simp [List.getD_eq_getElem?_getD, List.getElem?_append_left h]
theorem getD_snoc_eq {α : Type} {ss : List α} {s d : α} : (ss ++ [s]).getD ss.length d = s := by
  simp [List.getD_eq_getElem?_getD]
theorem mval_congr {G' : Nat → Nat} {ss' : List (List Int)} {j : Nat} (hG : G' j = G j) (hs : ss'.getD j [] = ss.getD j []) : mval G' ss' j = mval G ss j := by
  unfold mval; rw [hG, hs]
/-- One list more. -/
theorem MkL.push {g : Nat} {s : List Int} {v' : Value} (h : MkL B E T w l G ss) (hk : Blk w g .u8 E (s ++ mks36 ss.length)) (hB : B ≤ g) (hne : ∀ j, j < ss.length → G j ≠ g) (hET : E ≠ T)
    (hv : NewV B T w' v' ((List.range ss.length).map (mval G ss) ++ [.slice (some ⟨g, 0, none⟩) s.length (s.length + 70)])) (hg : w.grownBy w' l.ownBlock) (hko : ∀ b, l.ownBlock = some b → b ≠ g ∧ ∀ j, j < ss.length → G j ≠ b) :
    MkL B E T w' v' (fun j => if j = ss.length then g else G j) (ss ++ [s]) := by
  have lo : ∀ j, j < ss.length → mval (fun j => if j = ss.length then g else G j) (ss ++ [s]) j = mval G ss j := fun j hj => mval_congr (if_neg (by omega)) (getD_snoc_lt hj)
  have hi : mval (fun j => if j = ss.length then g else G j) (ss ++ [s]) ss.length = .slice (some ⟨g, 0, none⟩) s.length (s.length + 70) := by
    unfold mval; rw [getD_snoc_eq]; simp
  have ne : ∀ b, some b = l.ownBlock → b ≠ g ∧ ∀ j, j < ss.length → G j ≠ b := fun b e => hko b e.symm
  refine ⟨?_, fun j hj => ?_, fun i j hi' hj hij => ?_⟩
  · rw [List.length_append, List.length_singleton, List.range_succ, List.map_append, List.map_singleton, hi]
    rw [List.map_congr_left (g := mval G ss) fun j hj => lo j (List.mem_range.1 hj)]
    exact hv
  · rw [List.length_append, List.length_singleton] at hj
    by_cases e : j = ss.length
    · subst e
      rw [if_pos rfl, getD_snoc_eq]
      exact ⟨hB, hk.grown hg fun e2 => (ne g e2).1 rfl⟩
    · rw [if_neg e, getD_snoc_lt (by omega)]
      exact ⟨(h.blk j (by omega)).1, (h.blk j (by omega)).2.grown hg fun e2 => (ne (G j) e2).2 j (by omega) rfl⟩
  · rw [List.length_append, List.length_singleton] at hi' hj
    by_cases e1 : i = ss.length <;> by_cases e2 : j = ss.length
    · omega
    · rw [if_pos e1, if_neg e2]; exact (hne j (by omega)).symm
    · rw [if_neg e1, if_pos e2]; exact hne i (by omega)
    · rw [if_neg e1, if_neg e2]; exact h.apart i j (by omega) (by omega) hij
/-- The blocks of the lists are none of the row's. -/
theorem MkL.aside (h : MkL B E T w l G ss) (hET : E ≠ T) {j : Nat} (hj : j < ss.length) : ∀ b, l.ownBlock = some b → G j ≠ b := by
  intro b hb e
  have hk := (h.blk j hj).2
  rcases h.row with ⟨rfl, _⟩ | ⟨g', cp, cs, rfl, hbg, hh, _⟩
  · simp [Value.ownBlock] at hb
  · simp only [Value.ownBlock, Option.some.injEq] at hb
    subst hb e
    have h2 : w.heap[G j]? = _ := hk
    rw [hh] at h2
    simp only [Option.some.injEq, Obj.cells.injEq] at h2
    exact hET h2.2.1.symm
def mparts (G : Nat → Nat) (ss : List (List Int)) : List Part := (List.range ss.length).map fun j => ⟨some ⟨G j, 0, none⟩, (ss.getD j []).length + 70, ss.getD j []⟩
theorem mparts_len : (mparts G ss).length = ss.length := by simp [mparts]
theorem mparts_xs : (mparts G ss).map (·.xs) = ss := by
  unfold mparts
  rw [List.map_map]
  apply List.ext_getElem
  · simp
  · intro i h1 h2
    simp [h2]
/-- As the lists of a call. -/
theorem MkL.rows {a : Option Addr} {n c : Nat} (h : MkL B E T w (.slice a n c) G ss) (hu : ∀ s ∈ ss, U8 s) (hl : ∀ s ∈ ss, s.length ≤ 140737488355328) : Rows_ w a (mparts G ss) := by
  have mem : ∀ j, j < ss.length → ss.getD j [] ∈ ss := fun j hj => by
    rw [List.getD_eq_getElem?_getD, List.getElem?_eq_getElem hj]
    exact List.getElem_mem _
  refine ⟨fun hp => ?_, fun p hp => ?_, fun p hp => ?_⟩
  · rw [mparts_len] at hp
    obtain ⟨g, ha, _, _⟩ := h.row.cell 0 (by simpa using hp)
    refine ⟨g, 0, ha, fun j hj => ?_⟩
    rw [mparts_len] at hj
    obtain ⟨g', ha', _, hc⟩ := h.row.cell j (by simpa using hj)
    rw [ha] at ha'
    cases ha'
    rw [Nat.zero_add, hc]
    simp [mparts, Part.val, mval]
  · obtain ⟨j, hj, rfl⟩ := List.mem_map.1 hp
    have hj' := List.mem_range.1 hj
    have := (h.blk j hj').2.sl (ss.getD j []).length ((ss.getD j []).length + 70) (by omega) (by have := hl _ (mem j hj'); omega)
    rwa [List.take_left] at this
  · obtain ⟨j, hj, rfl⟩ := List.mem_map.1 hp
    exact hu _ (mem j (List.mem_range.1 hj))
end
end Go.Sg
