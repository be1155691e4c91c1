/- Many lists of the call's own, each in memory of its own; what has grown out of them by appends. No program in sight. -/
import Derived.Test.YtnlmkikaaifcmaaAppK
import Derived.Test.YtnlmkikaaifcmaaRowsB
set_option linter.unusedVariables false
set_option linter.unusedSimpArgs false
namespace Go.Sg
open Go.RowKit

theorem New.at_own {B : Nat} {k : IntKind} {E : TypeId} {w : World} {v : Value} {xs : List Int} (h : New B k E w v xs) : ∃ a c, v = .slice a xs.length c ∧ Sl k w a c xs ∧ (∀ b o, a = some ⟨b, o, none⟩ → o = 0 ∧ v.ownBlock = some b) := by
  rcases h with ⟨rfl, rfl⟩ | ⟨g, cap, cs, rfl, hg, hh, h1, h2, h3, h4⟩
  · exact ⟨none, 0, rfl, .nil _ _ _ _ (by omega), fun b o h => by cases h⟩
  · obtain ⟨a, c, hv, hs⟩ := New.sl (.inr ⟨g, cap, cs, rfl, hg, hh, h1, h2, h3, h4⟩ : New B k E w (.slice (some ⟨g, 0, none⟩) xs.length cap) xs)
    simp only [Value.slice.injEq] at hv
    obtain ⟨rfl, _, rfl⟩ := hv
    exact ⟨_, _, rfl, hs, fun b o h => by cases h; exact ⟨rfl, rfl⟩⟩

/-- n lists: V i reads as A i. -/
structure FamV (B : Nat) (k : IntKind) (E : TypeId) (w : World) (n : Nat) (V : Nat → Value) (A : Nat → List Int) : Prop where
  new : ∀ i, i < n → New B k E w (V i) (A i)
  apart : ∀ i j, i < n → j < n → i ≠ j → ∀ g, (V i).ownBlock = some g → (V j).ownBlock ≠ some g
section
variable {B n : Nat} {k : IntKind} {E : TypeId} {w w' : World} {V : Nat → Value} {A : Nat → List Int}
theorem FamV.zero (B : Nat) (k : IntKind) (E : TypeId) (w : World) (V : Nat → Value) (A : Nat → List Int) : FamV B k E w 0 V A := ⟨fun i h => by omega, fun i j h => by omega⟩
theorem FamV.keep (h : FamV B k E w n V A) (hb : Below w.heap.size w w') : FamV B k E w' n V A := ⟨fun i hi => (h.new i hi).keep hb, h.apart⟩
theorem FamV.grown {row : Option Nat} (h : FamV B k E w n V A) (hg : w.grownBy w' row) (hne : ∀ i, i < n → ∀ g, (V i).ownBlock = some g → some g ≠ row) : FamV B k E w' n V A :=
  ⟨fun i hi => (h.new i hi).kept hg (by
    cases hv : (V i).ownBlock with
    | none => exact .inl rfl
    | some g => exact .inr (hne i hi g hv)), h.apart⟩
theorem FamV.mono {B' : Nat} (h : FamV B k E w n V A) (hB : B' ≤ B) : FamV B' k E w n V A := ⟨fun i hi => (h.new i hi).mono hB, h.apart⟩
/-- One more list, made since. -/
theorem FamV.push {v : Value} {xs : List Int} (h : FamV B k E w n V A) (hv : New B k E w' v xs) (hb : Below w.heap.size w w') (hf : ∀ g, v.ownBlock = some g → w.heap.size ≤ g) :
    FamV B k E w' (n + 1) (fun i => if i < n then V i else v) (fun i => if i < n then A i else xs) := by
  have h2 := h.keep hb
  refine ⟨fun i hi => ?_, fun i j hi hj hne g hg => ?_⟩
  · by_cases e : i < n
    · simp only [e, if_true]
      exact h2.new i e
    · simp only [e, if_false]
      exact hv
  · by_cases e1 : i < n <;> by_cases e2 : j < n <;> simp only [e1, e2, if_true, if_false] at hg ⊢
    · exact h.apart i j e1 e2 hne g hg
    · intro hg2
      have h3 := ((h.new i e1).lt g hg).2
      have := hf g hg2
      omega
    · intro hg2
      have h3 := ((h.new j e2).lt g hg2).2
      have := hf g hg
      omega
    · exact absurd (show i = j by omega) hne
/-- A number is stored into one of them. -/
theorem FamV.set (h : FamV B k E w n V A) {i j : Nat} (hi : i < n) (hj : j < (A i).length) (x : Int) {g o : Nat} {c : Nat} (hv : V i = .slice (some ⟨g, o, none⟩) (A i).length c) :
    o = 0 ∧ w.frozen? ⟨g, j, none⟩ = false ∧ w.cell? ⟨g, j, none⟩ = some (.int k (nth (A i) j)) ∧ B ≤ g ∧ g < w.heap.size ∧ FamV B k E (w.setCell ⟨g, j, none⟩ (.int k x)) n V (fun m => if m = i then (A i).set j x else A m) := by
  obtain ⟨g2, c2, hv2, hB, hp⟩ := (h.new i hi).pre (by omega)
  rw [hv] at hv2
  simp only [Value.slice.injEq, Option.some.injEq, Addr.mk.injEq, and_true] at hv2
  obtain ⟨⟨rfl, rfl⟩, _, rfl⟩ := hv2
  refine ⟨rfl, hp.free j, hp.cell j hj, hB, hp.lt, fun m hm => ?_, h.apart⟩
  by_cases e : m = i
  · subst e
    simp only [if_true]
    have := (hp.set j x).new hB
    rwa [List.length_set, ← hv] at this
  · simp only [e, if_false]
    refine (h.new m hm).kept (grownBy_set w ⟨g, j, none⟩ (.int k x)) ?_
    cases hv3 : (V m).ownBlock with
    | none => exact .inl rfl
    | some g3 =>
      refine .inr fun e2 => ?_
      have e3 := Option.some.inj e2
      subst e3
      exact h.apart m i hm hi e g3 hv3 (by rw [hv]; rfl)
theorem FamV.congr {A' : Nat → List Int} (h : FamV B k E w n V A) (e : ∀ i, i < n → A i = A' i) : FamV B k E w n V A' := ⟨fun i hi => by rw [← e i hi]; exact h.new i hi, h.apart⟩
theorem FamV.own (h : FamV B k E w n V A) {i : Nat} (hi : i < n) : ∃ a c, V i = .slice a (A i).length c ∧ Sl k w a c (A i) ∧ (∀ b o, a = some ⟨b, o, none⟩ → B ≤ b ∧ b < w.heap.size) := by
  obtain ⟨a, c, hv, hs, ho⟩ := (h.new i hi).at_own
  exact ⟨a, c, hv, hs, fun b o ha => (h.new i hi).lt b (ho b o ha).2⟩
end

/-- One list of the call's own: v as it was handed out (reads A), u what has grown out of it. -/
structure ExtK (S B : Nat) (k : IntKind) (E : TypeId) (w : World) (v : Value) (A : List Int) (u : Value) (X : List Int) : Prop where
  sa : ∃ a c, v = .slice a A.length c ∧ Sl k w a c A ∧ (∀ b o, a = some ⟨b, o, none⟩ → o = 0)
  nx : New B k E w u (A ++ X)
  own : ∀ g, u.ownBlock = some g → v.ownBlock = some g ∨ S ≤ g
  old : ∀ g, v.ownBlock = some g → g < S ∧ B ≤ g
section
variable {S B : Nat} {k : IntKind} {E : TypeId} {w w' : World} {v u u' : Value} {A X ys : List Int}
theorem ExtK.start (h : New B k E w v A) (hS : w.heap.size ≤ S) : ExtK S B k E w v A v [] := by
  obtain ⟨a, c, hv, hs, ho⟩ := h.at_own
  exact ⟨⟨a, c, hv, hs, fun b o ha => (ho b o ha).1⟩, by rw [List.append_nil]; exact h, fun g hg => .inl hg, fun g hg => by have := h.lt g hg; omega⟩
theorem ExtK.below (h : ExtK S B k E w v A u X) (hb : Below w.heap.size w w') : ExtK S B k E w' v A u X := by
  obtain ⟨a, c, hv, hs, ho⟩ := h.sa
  exact ⟨⟨a, c, hv, hs.below hb, ho⟩, h.nx.keep hb, h.own, h.old⟩
theorem ExtK.grown {row : Option Nat} (h : ExtK S B k E w v A u X) (hg : w.grownBy w' row) (h1 : ∀ g, v.ownBlock = some g → some g ≠ row) (h2 : ∀ g, u.ownBlock = some g → some g ≠ row) : ExtK S B k E w' v A u X := by
  obtain ⟨a, c, hv, hs, ho⟩ := h.sa
  refine ⟨⟨a, c, hv, hs.grown' hg (fun b off ha _ => h1 b (by rw [hv, ha]; rfl)), ho⟩, h.nx.kept hg ?_, h.own, h.old⟩
  cases hu : u.ownBlock with
  | none => exact .inl rfl
  | some g => exact .inr (h2 g hu)
theorem ExtK.append (h : ExtK S B k E w v A u X) (n1 : New B k E w' u' (A ++ X ++ ys)) (n0 : New B k E w' u (A ++ X)) (hg : w.grownBy w' u.ownBlock)
    (ho : u'.ownBlock = u.ownBlock ∨ ∃ g, u'.ownBlock = some g ∧ w.heap.size ≤ g) (hS : S ≤ w.heap.size) : ExtK S B k E w' v A u' (X ++ ys) := by
  obtain ⟨a, c, hv, hs, hz⟩ := h.sa
  refine ⟨⟨a, c, hv, ?_, hz⟩, by rw [← List.append_assoc]; exact n1, fun g hg' => ?_, h.old⟩
  · cases hu : u.ownBlock with
    | none => rw [hu] at hg; exact hs.grown' hg (fun b off _ _ => by simp)
    | some g =>
      rw [hu] at hg
      rcases h.own g hu with ha | hs2
      · refine ⟨hs.le, hs.max, fun hp => ?_⟩
        obtain ⟨b, off, rfl, hc⟩ := hs.cells hp
        obtain rfl := hz b off rfl
        rw [hv] at ha
        have hbg : b = g := by simpa [Value.ownBlock] using ha
        subst hbg
        obtain ⟨a2, c2, hv2, hs2, ho2⟩ := n0.at_own
        obtain ⟨b2, off2, rfl, hc2⟩ := hs2.cells (by rw [List.length_append]; omega)
        obtain ⟨rfl, ho3⟩ := ho2 b2 off2 rfl
        rw [hu] at ho3
        cases ho3
        have t := (hs2.take A.length).cells
        rw [List.take_left] at t
        exact t hp
      · exact hs.grown' hg (fun b off ha _ e => by
          have := (h.old b (by rw [hv, ha]; rfl)).1
          have := Option.some.inj e
          omega)
  · rcases ho with e | ⟨g2, e, hg2⟩
    · exact h.own g (e ▸ hg')
    · rw [e] at hg'
      have := Option.some.inj hg'
      exact .inr (by omega)
end

/-- n lists as they were handed out (V i reads as A i), and what has grown out of each (U i: A i and X i). -/
structure Fam (S B : Nat) (k : IntKind) (E : TypeId) (w : World) (n : Nat) (V U : Nat → Value) (A X : Nat → List Int) : Prop where
  ext : ∀ i, i < n → ExtK S B k E w (V i) (A i) (U i) (X i)
  apart : ∀ i j, i < n → j < n → i ≠ j → ∀ g, (U i).ownBlock = some g → (V j).ownBlock ≠ some g ∧ (U j).ownBlock ≠ some g
  vv : ∀ i j, i < n → j < n → i ≠ j → ∀ g, (V i).ownBlock = some g → (V j).ownBlock ≠ some g
section
variable {S B n : Nat} {k : IntKind} {E : TypeId} {w w' : World} {V U : Nat → Value} {A X : Nat → List Int}
theorem FamV.fam (h : FamV B k E w n V A) (hS : w.heap.size ≤ S) : Fam S B k E w n V V A (fun _ => []) :=
  ⟨fun i hi => .start (h.new i hi) hS, fun i j hi hj hne g hg => ⟨h.apart i j hi hj hne g hg, h.apart i j hi hj hne g hg⟩, h.apart⟩
theorem Fam.keep (h : Fam S B k E w n V U A X) (hb : Below w.heap.size w w') : Fam S B k E w' n V U A X := ⟨fun i hi => (h.ext i hi).below hb, h.apart, h.vv⟩
theorem Fam.grown {row : Option Nat} (h : Fam S B k E w n V U A X) (hg : w.grownBy w' row) (h1 : ∀ i, i < n → ∀ g, (V i).ownBlock = some g → some g ≠ row) (h2 : ∀ i, i < n → ∀ g, (U i).ownBlock = some g → some g ≠ row) : Fam S B k E w' n V U A X :=
  ⟨fun i hi => (h.ext i hi).grown hg (h1 i hi) (h2 i hi), h.apart, h.vv⟩
/-- One of them grows by an append. -/
theorem Fam.append (h : Fam S B k E w n V U A X) {i : Nat} (hi : i < n) {u' : Value} {ys : List Int} (n1 : New B k E w' u' (A i ++ X i ++ ys)) (n0 : New B k E w' (U i) (A i ++ X i)) (hg : w.grownBy w' (U i).ownBlock)
    (ho : u'.ownBlock = (U i).ownBlock ∨ ∃ g, u'.ownBlock = some g ∧ w.heap.size ≤ g) (hS : S ≤ w.heap.size) :
    Fam S B k E w' n V (fun m => if m = i then u' else U m) A (fun m => if m = i then X i ++ ys else X m) := by
  have low : ∀ m, m < n → ∀ g, (U m).ownBlock = some g → g < w.heap.size := fun m hm g hg => ((h.ext m hm).nx.lt g hg).2
  have lowV : ∀ m, m < n → ∀ g, (V m).ownBlock = some g → g < w.heap.size := fun m hm g hg => Nat.lt_of_lt_of_le ((h.ext m hm).old g hg).1 hS
  have fresh : ∀ g, u'.ownBlock = some g → (U i).ownBlock = some g ∨ w.heap.size ≤ g := fun g hg => by
    rcases ho with e | ⟨g2, e, hge⟩
    · exact .inl (e ▸ hg)
    · rw [e] at hg
      have := Option.some.inj hg
      exact .inr (by omega)
  refine ⟨fun m hm => ?_, fun a b ha hb hne g hg2 => ?_, h.vv⟩
  · by_cases e : m = i
    · subst e
      simp only [if_true]
      exact (h.ext m hm).append n1 n0 hg ho hS
    · simp only [e, if_false]
      refine (h.ext m hm).grown hg (fun g hv e2 => ?_) (fun g hv e2 => ?_)
      · exact (h.apart i m hi hm (fun e3 => e e3.symm) g e2.symm).1 hv
      · exact (h.apart i m hi hm (fun e3 => e e3.symm) g e2.symm).2 hv
  · by_cases e1 : a = i
    · subst e1
      simp only [if_true] at hg2
      have e2 : ¬ b = a := fun e => hne e.symm
      simp only [e2, if_false]
      rcases fresh g hg2 with h3 | h3
      · exact h.apart a b ha hb hne g h3
      · exact ⟨fun h4 => by have := lowV b hb g h4; omega, fun h4 => by have := low b hb g h4; omega⟩
    · simp only [e1, if_false] at hg2
      by_cases e2 : b = i
      · subst e2
        simp only [if_true]
        refine ⟨(h.apart a b ha hb hne g hg2).1, fun h4 => ?_⟩
        rcases fresh g h4 with h3 | h3
        · exact (h.apart a b ha hb hne g hg2).2 h3
        · have := low a ha g hg2
          omega
      · simp only [e2, if_false]
        exact h.apart a b ha hb hne g hg2
theorem Fam.congr {U' : Nat → Value} {A' X' : Nat → List Int} (h : Fam S B k E w n V U A X) (e1 : ∀ i, i < n → U i = U' i) (e2 : ∀ i, i < n → X i = X' i) (e3 : ∀ i, i < n → A i = A' i) : Fam S B k E w n V U' A' X' :=
  ⟨fun i hi => by rw [← e1 i hi, ← e2 i hi, ← e3 i hi]; exact h.ext i hi, fun i j hi hj hne g hg => by
    rw [← e1 i hi] at hg
    rw [← e1 j hj]
    exact h.apart i j hi hj hne g hg, h.vv⟩
end

/-- A row of the call's own whose places hold slices. -/
structure RowV (w : World) (g n : Nat) (V : Nat → Value) : Prop where
  lt : g < w.heap.size
  cell : ∀ j, j < n → w.cell? ⟨g, j, none⟩ = some (V j)
theorem RowV.grown {w w' : World} {g n : Nat} {V : Nat → Value} {row : Option Nat} (h : RowV w g n V) (hg : w.grownBy w' row) (hne : some g ≠ row) : RowV w' g n V :=
  ⟨Nat.lt_of_lt_of_le h.lt hg.size, fun j hj => (World.cell?_of_block (a := ⟨g, j, none⟩) (hg.block g h.lt hne)).trans (h.cell j hj)⟩
theorem RowV.keep {w w' : World} {g n : Nat} {V : Nat → Value} (h : RowV w g n V) (hb : Below w.heap.size w w') : RowV w' g n V :=
  ⟨Nat.lt_of_lt_of_le h.lt hb.size, fun j hj => (World.cell?_of_block (a := ⟨g, j, none⟩) (hb.block g h.lt)).trans (h.cell j hj)⟩
theorem RowV.new (w : World) (E : TypeId) (n : Nat) (V : Nat → Value) (cs : Array Value) (hcs : ∀ j, j < n → cs[j]? = some (V j)) (g : Nat) (hg : g = w.heap.size) : RowV (w.alloc (.cells cs E)) g n V := by
  subst hg
  refine ⟨by simp, fun j hj => ?_⟩
  rw [cell_of_row (w.alloc (.cells cs E)) w.heap.size j cs E (0, 0) (by show (w.heap.push _)[w.heap.size]? = _; simp)]
  exact hcs j hj
/-- A row whose places are slices is none of numbers. -/
theorem NewV.aside' {B : Nat} {E E' : TypeId} {k : IntKind} {w : World} {v u : Value} {vs : List Value} {B' : Nat} {xs : List Int} (h : NewV B E w v vs) (hu : New B' k E' w u xs) (hne : E' ≠ E) : ∀ g, u.ownBlock = some g → some g ≠ v.ownBlock := by
  intro g hg e
  rcases h with ⟨rfl, _⟩ | ⟨g', cp, cs, rfl, hbg, hh, _⟩
  · simp [Value.ownBlock] at e
  · rcases hu with ⟨rfl, _⟩ | ⟨g2, cap2, cs2, rfl, hb2, hh2, _⟩
    · simp [Value.ownBlock] at hg
    · simp only [Value.ownBlock, Option.some.injEq] at hg e
      subst hg
      subst e
      rw [hh] at hh2
      simp only [Option.some.injEq, Obj.cells.injEq] at hh2
      exact hne hh2.2.1.symm
end Go.Sg
