/- A book of states and of what was written to each: what stays of it over a call that writes. No walk. -/
import Derived.Test.YtnlmkikaaifcmaaDoorPlayA
set_option linter.unusedVariables false
set_option linter.unusedSimpArgs false
namespace Go.Sg
open Go.RowKit
/-- A row of elements of this type. -/
def Typ (w : World) (g : Nat) (T : TypeId) : Prop := ∃ cs z, w.heap[g]? = some (.cells cs T z)
theorem Typ.ne {w : World} {g g' : Nat} {T U : TypeId} (h : Typ w g T) (h' : Typ w g' U) (hne : T ≠ U) : g ≠ g' := by
  rintro rfl
  obtain ⟨cs, z, e⟩ := h
  obtain ⟨cs', z', e'⟩ := h'
  rw [e] at e'
  simp only [Option.some.injEq, Obj.cells.injEq] at e'
  exact hne e'.2.1
theorem NewV.typ {B : Nat} {E : TypeId} {w : World} {v : Value} {vs : List Value} (h : NewV B E w v vs) {g : Nat} (hg : v.ownBlock = some g) : Typ w g E := by
  rcases h with ⟨rfl, _⟩ | ⟨g', cap, cs, rfl, _, hh, _⟩
  · simp [Value.ownBlock] at hg
  · simp [Value.ownBlock] at hg
    subst hg
    exact ⟨cs, _, hh⟩
theorem New.typ {B : Nat} {k : IntKind} {E : TypeId} {w : World} {v : Value} {xs : List Int} (h : New B k E w v xs) {g : Nat} (hg : v.ownBlock = some g) : Typ w g E := by
  rcases h with ⟨rfl, _⟩ | ⟨g', cap, cs, rfl, _, hh, _⟩
  · simp [Value.ownBlock] at hg
  · simp [Value.ownBlock] at hg
    subst hg
    exact ⟨cs, _, hh⟩
theorem own_off {w : World} {v : Value} {g' : Nat} {E U : TypeId} (ht : ∀ g, v.ownBlock = some g → Typ w g E) (hu : Typ w g' U) (hne : E ≠ U) : v.ownBlock = none ∨ v.ownBlock ≠ some g' := by
  cases hv : v.ownBlock with
  | none => exact .inl rfl
  | some g => exact .inr fun e => (ht g hv).ne hu hne (Option.some.inj e)
theorem own_off' {w : World} {v u : Value} {E U : TypeId} (ht : ∀ g, v.ownBlock = some g → Typ w g E) (hu : ∀ g, u.ownBlock = some g → Typ w g U) (hne : E ≠ U) : v.ownBlock = none ∨ v.ownBlock ≠ u.ownBlock := by
  cases hv : v.ownBlock with
  | none => exact .inl rfl
  | some g =>
    refine .inr fun e => ?_
    exact (ht g hv).ne (hu g e.symm) hne rfl
theorem range_pushG {α : Type} {V V' : Nat → α} {n : Nat} {v : α} (h1 : ∀ j, j < n → V' j = V j) (h2 : V' n = v) : (List.range (n + 1)).map V' = (List.range n).map V ++ [v] := by
  rw [List.range_succ, List.map_append, List.map_cons, List.map_nil, h2]
  congr 1
  exact List.map_congr_left fun j hj => h1 j (List.mem_range.1 hj)
theorem range_set {α : Type} (X : Nat → α) (m i : Nat) (v : α) : ((List.range m).map X).set i v = (List.range m).map fun k => if k = i then v else X k := by
  refine List.ext_getElem (by simp) fun j h1 h2 => ?_
  simp only [List.getElem_set, List.getElem_map, List.getElem_range]
  by_cases e : i = j
  · rw [if_pos e, if_pos e.symm]
  · rw [if_neg e, if_neg (fun h => e h.symm)]
end Go.Sg
namespace Go.Proofs.YtnlmkikaaifcmaaDoor
open Go.RowKit Go.Sg
theorem ShaSt.under {w w' : World} {g N : Nat} {h : Int} {T : List Int} (s : ShaSt w g h T) (hb : Below N w w') (hg : g < N) : ShaSt w' g h T := by
  obtain ⟨S, L, r, st, m⟩ := s.ex
  exact ⟨⟨S, L, r, ⟨(hb.block g hg).trans st.rw, st.s8, st.l8, st.r128, st.u8⟩, m⟩, s.ok, s.u8, s.far⟩
theorem ShaSt.typ {w : World} {g : Nat} {h : Int} {T : List Int} (s : ShaSt w g h T) : Typ w g STy := by
  obtain ⟨S, L, r, st, m⟩ := s.ex
  exact ⟨_, _, st.rw⟩
/-- n states (G i: it has been written S i) and m texts (X i reads as T i), each in its row. -/
structure Book (B N : Nat) (h : Int) (w : World) (vs vt : Value) (n m : Nat) (G : Nat → Nat) (S T : Nat → List Int) (X : Nat → Value) : Prop where
  rs : NewV B 24 w vs ((List.range n).map fun i => Value.pointer (some ⟨G i, 0, none⟩))
  rt : NewV B 29 w vt ((List.range m).map X)
  st : ∀ i, i < n → ShaSt w (G i) h (S i)
  own : ∀ i, i < n → B ≤ G i ∧ G i < N
  ne : ∀ i j, i < n → j < n → i ≠ j → G i ≠ G j
  tx : ∀ i, i < m → New B .u8 5 w (X i) (T i)
  u8 : ∀ i, i < m → U8 (T i)
  tN : ∀ i g, i < m → (X i).ownBlock = some g → g < N
  sN : ∀ g, vs.ownBlock = some g → g < N
  rN : ∀ g, vt.ownBlock = some g → g < N
section
variable {B N n m : Nat} {h : Int} {w w' : World} {vs vt : Value} {G : Nat → Nat} {S T : Nat → List Int} {X : Nat → Value}
theorem Book.below (b : Book B N h w vs vt n m G S T X) (hb : Below N w w') : Book B N h w' vs vt n m G S T X :=
  ⟨b.rs.below hb b.sN, b.rt.below hb b.rN, fun i hi => (b.st i hi).under hb (b.own i hi).2, b.own, b.ne, fun i hi => (b.tx i hi).below hb fun g hg => b.tN i g hi hg, b.u8, b.tN, b.sN, b.rN⟩
theorem Book.mono {N' : Nat} (b : Book B N h w vs vt n m G S T X) (hN : N ≤ N') : Book B N' h w vs vt n m G S T X :=
  ⟨b.rs, b.rt, b.st, fun i hi => ⟨(b.own i hi).1, Nat.lt_of_lt_of_le (b.own i hi).2 hN⟩, b.ne, b.tx, b.u8, fun i g hi hg => Nat.lt_of_lt_of_le (b.tN i g hi hg) hN, fun g hg => Nat.lt_of_lt_of_le (b.sN g hg) hN, fun g hg => Nat.lt_of_lt_of_le (b.rN g hg) hN⟩
/-- One state is written to. -/
theorem Book.write (b : Book B N h w vs vt n m G S T X) {i : Nat} (hi : i < n) {s' : List Int} (hs : ShaSt w' (G i) h s') (hg : w.grownBy w' (some (G i))) : Book B N h w' vs vt n m G (fun k => if k = i then s' else S k) T X := by
  have ty := (b.st i hi).typ
  refine ⟨b.rs.kept hg (own_off (fun g => b.rs.typ) ty (by decide)), b.rt.kept hg (own_off (fun g => b.rt.typ) ty (by decide)), fun j hj => ?_, b.own, b.ne, fun j hj => (b.tx j hj).kept hg (own_off (fun g => (b.tx j hj).typ) ty (by decide)), b.u8, b.tN, b.sN, b.rN⟩
  by_cases e : j = i
  · subst e
    simp only [if_true]
    exact hs
  · simp only [e, if_false]
    exact (b.st j hj).grown hg (fun h => b.ne j i hj hi e (Option.some.inj h))
/-- Another text is laid in. -/
theorem Book.put (b : Book B N h w vs vt n m G S T X) {i gt k c : Nat} {v : Value} {ys : List Int} (hi : i < m) (hv : New B .u8 5 w v ys) (hu : U8 ys) (e : vt = .slice (some ⟨gt, 0, none⟩) k c) (hvN : ∀ g, v.ownBlock = some g → g < N) :
    w.frozen? ⟨gt, i, none⟩ = false ∧ Book B N h (w.setCell ⟨gt, i, none⟩ v) vs vt n m G S (fun k => if k = i then ys else T k) (fun k => if k = i then v else X k) := by
  subst e
  obtain ⟨hf, hr⟩ := b.rt.put i v
  have hg := grownBy_set w ⟨gt, i, none⟩ v
  have ty : Typ w gt 29 := b.rt.typ rfl
  refine ⟨hf, b.rs.kept hg (own_off (fun g => b.rs.typ) ty (by decide)), by rw [← range_set]; exact hr, fun j hj => (b.st j hj).grown hg (fun h => (b.st j hj).typ.ne ty (by decide) (Option.some.inj h)), b.own, b.ne, fun j hj => ?_, fun j hj => ?_, fun j g hj hg => ?_, b.sN, b.rN⟩
  · by_cases e : j = i
    · simp only [e, if_true]
      exact hv.kept hg (own_off (fun g => hv.typ) ty (by decide))
    · simp only [e, if_false]
      exact (b.tx j hj).kept hg (own_off (fun g => (b.tx j hj).typ) ty (by decide))
  · by_cases e : j = i
    · simp only [e, if_true]; exact hu
    · simp only [e, if_false]; exact b.u8 j hj
  · by_cases e : j = i
    · simp only [e, if_true] at hg; exact hvN g hg
    · simp only [e, if_false] at hg; exact b.tN j g hj hg
/-- One more state. -/
theorem Book.pushS (b : Book B N h w vs vt n m G S T X) {g : Nat} {s : List Int} {v' : Value} (hr : NewV B 24 w' v' (((List.range n).map fun i => Value.pointer (some ⟨G i, 0, none⟩)) ++ [.pointer (some ⟨g, 0, none⟩)])) (hg : w.grownBy w' vs.ownBlock)
    (hs : ShaSt w g h s) (hB : B ≤ g) (hf : ∀ j, j < n → G j ≠ g) : Book B w'.heap.size h w' v' vt (n + 1) m (fun k => if k < n then G k else g) (fun k => if k < n then S k else s) T X := by
  have tv : ∀ g, vs.ownBlock = some g → Typ w g 24 := fun g => b.rs.typ
  have sg : ∀ {g' : Nat} {t : List Int}, ShaSt w g' h t → ShaSt w' g' h t := fun {g' t} q => q.grown hg (fun e => q.typ.ne (tv g' e.symm) (by decide) rfl)
  have rt' := b.rt.kept hg (own_off' (fun g => b.rt.typ) tv (by decide))
  have tx' : ∀ i, i < m → New B .u8 5 w' (X i) (T i) := fun j hj => (b.tx j hj).kept hg (own_off' (fun g => (b.tx j hj).typ) tv (by decide))
  have st' : ∀ j, j < n + 1 → ShaSt w' (if j < n then G j else g) h (if j < n then S j else s) := fun j hj => by
    by_cases e : j < n
    · simp only [e, if_true]; exact sg (b.st j e)
    · simp only [e, if_false]; exact sg hs
  refine ⟨?_, rt', st', fun j hj => ⟨?_, (st' j hj).lt⟩, fun i j hi hj hne => ?_, tx', b.u8, fun i g hi hg => ((tx' i hi).lt g hg).2, fun g hg => (hr.lt g hg).2, fun g hg => (rt'.lt g hg).2⟩
  · rw [range_pushG (V := fun i => Value.pointer (some ⟨G i, 0, none⟩)) (v := .pointer (some ⟨g, 0, none⟩)) (fun j hj => by simp only [hj, if_true]) (by simp)]
    exact hr
  · by_cases e : j < n
    · simp only [e, if_true]; exact (b.own j e).1
    · simp only [e, if_false]; exact hB
  · by_cases e1 : i < n <;> by_cases e2 : j < n <;> simp only [e1, e2, if_true, if_false]
    · exact b.ne i j e1 e2 hne
    · exact hf i e1
    · exact fun h => hf j e2 h.symm
    · omega
/-- One more text. -/
theorem Book.pushT (b : Book B N h w vs vt n m G S T X) {v' u : Value} {ys : List Int} (hr : NewV B 29 w' v' ((List.range m).map X ++ [u])) (hg : w.grownBy w' vt.ownBlock)
    (hu : New B .u8 5 w u ys) (h8 : U8 ys) : Book B w'.heap.size h w' vs v' n (m + 1) G S (fun k => if k < m then T k else ys) (fun k => if k < m then X k else u) := by
  have tv : ∀ g, vt.ownBlock = some g → Typ w g 29 := fun g => b.rt.typ
  have st' : ∀ j, j < n → ShaSt w' (G j) h (S j) := fun j hj => (b.st j hj).grown hg (fun e => (b.st j hj).typ.ne (tv _ e.symm) (by decide) rfl)
  have rs' := b.rs.kept hg (own_off' (fun g => b.rs.typ) tv (by decide))
  have nk : ∀ {x : Value} {zs : List Int}, New B .u8 5 w x zs → New B .u8 5 w' x zs := fun {x zs} q => q.kept hg (own_off' (fun g => q.typ) tv (by decide))
  have tx' : ∀ i, i < m + 1 → New B .u8 5 w' (if i < m then X i else u) (if i < m then T i else ys) := fun j hj => by
    by_cases e : j < m
    · simp only [e, if_true]; exact nk (b.tx j e)
    · simp only [e, if_false]; exact nk hu
  refine ⟨rs', ?_, st', fun j hj => ⟨(b.own j hj).1, (st' j hj).lt⟩, b.ne, tx', fun j hj => ?_, fun i g hi hg => ((tx' i hi).lt g hg).2, fun g hg => (rs'.lt g hg).2, fun g hg => (hr.lt g hg).2⟩
  · rw [range_pushG (V := X) (v := u) (fun j hj => by simp only [hj, if_true]) (by simp)]
    exact hr
  · by_cases e : j < m
    · simp only [e, if_true]; exact b.u8 j e
    · simp only [e, if_false]; exact h8
theorem Book.congr {S' T' : Nat → List Int} (b : Book B N h w vs vt n m G S T X) (e1 : ∀ i, i < n → S i = S' i) (e2 : ∀ i, i < m → T i = T' i) : Book B N h w vs vt n m G S' T' X :=
  ⟨b.rs, b.rt, fun i hi => by rw [← e1 i hi]; exact b.st i hi, b.own, b.ne, fun i hi => by rw [← e2 i hi]; exact b.tx i hi, fun i hi => by rw [← e2 i hi]; exact b.u8 i hi, b.tN, b.sN, b.rN⟩
end
end Go.Proofs.YtnlmkikaaifcmaaDoor
