/- What stays while a slice of the call's own is written, or appended to. No program in sight. -/
import Derived.Test.YtiookhggbloccaaDoorAppK
import Derived.Test.YtiookhggbloccaaDoorShaH
set_option linter.unusedVariables false
set_option linter.unusedSimpArgs false
namespace Go.Sg
open Go.RowKit
/-- Lists that stand. -/
def Stand (w : World) (ps : List Part) : Prop := ∀ p ∈ ps, Sl .u8 w p.a p.cap p.xs
theorem Stand.below {w w' : World} {ps : List Part} (h : Stand w ps) (hb : Below w.heap.size w w') : Stand w' ps := fun p hp => (h p hp).below hb
theorem Stand.grown {w w' : World} {ps : List Part} {row : Option Nat} (h : Stand w ps) (hg : w.grownBy w' row) (hne : ∀ p ∈ ps, ∀ b off, p.a = some ⟨b, off, none⟩ → some b ≠ row) : Stand w' ps :=
  fun p hp => (h p hp).grown' hg fun b off ha _ => hne p hp b off ha
/-- A list of the call's own (at a), and what has grown out of it by appends (v). -/
structure Ext (S B : Nat) (E : TypeId) (w : World) (a : Option Addr) (c : Nat) (A : List Int) (v : Value) (X : List Int) : Prop where
  sa : Sl .u8 w a c A
  nx : New B .u8 E w v (A ++ X)
  own : ∀ g, v.ownBlock = some g → a = some ⟨g, 0, none⟩ ∨ S ≤ g
  old : ∀ b off, a = some ⟨b, off, none⟩ → b < S
theorem New.own_addr {B : Nat} {k : IntKind} {E : TypeId} {w : World} {a : Option Addr} {n c : Nat} {xs : List Int} (h : New B k E w (.slice a n c) xs) : ∀ g, (Value.slice a n c).ownBlock = some g → a = some ⟨g, 0, none⟩ := by
  intro g hg
  rcases h with ⟨hv, _⟩ | ⟨g', cp, cs, hv, _⟩
  · simp only [Value.slice.injEq] at hv
    rw [hv.1] at hg
    simp [Value.ownBlock] at hg
  · simp only [Value.slice.injEq] at hv
    rw [hv.1] at hg ⊢
    simp [Value.ownBlock] at hg
    rw [hg]
theorem New.addr_own {B : Nat} {k : IntKind} {E : TypeId} {w : World} {a : Option Addr} {n c : Nat} {xs : List Int} (h : New B k E w (.slice a n c) xs) : ∀ b off, a = some ⟨b, off, none⟩ → (Value.slice a n c).ownBlock = some b := by
  rintro b off rfl
  rfl
theorem Ext.start {B : Nat} {E : TypeId} {w : World} {a : Option Addr} {n c : Nat} {A : List Int} (h : New B .u8 E w (.slice a n c) A) {S : Nat} (hS : w.heap.size ≤ S) : Ext S B E w a c A (.slice a n c) [] := by
  refine ⟨?_, by rw [List.append_nil]; exact h, fun g hg => .inl (h.own_addr g hg), fun b off ha => Nat.lt_of_lt_of_le (h.lt b (h.addr_own b off ha)).2 hS⟩
  obtain ⟨a2, c2, hv, hs⟩ := h.sl
  simp only [Value.slice.injEq] at hv
  obtain ⟨rfl, _, rfl⟩ := hv
  exact hs
theorem Ext.below {S B : Nat} {E : TypeId} {w w' : World} {a : Option Addr} {c : Nat} {A : List Int} {v : Value} {X : List Int} (h : Ext S B E w a c A v X) (hb : Below w.heap.size w w') : Ext S B E w' a c A v X :=
  ⟨h.sa.below hb, h.nx.keep hb, h.own, h.old⟩
theorem Ext.grown {S B : Nat} {E : TypeId} {w w' : World} {a : Option Addr} {c : Nat} {A : List Int} {v : Value} {X : List Int} {row : Option Nat} (h : Ext S B E w a c A v X) (hg : w.grownBy w' row) (h1 : ∀ b off, a = some ⟨b, off, none⟩ → some b ≠ row) (h2 : ∀ g, v.ownBlock = some g → some g ≠ row) : Ext S B E w' a c A v X :=
  ⟨h.sa.grown' hg (fun b off ha _ => h1 b off ha), h.nx.kept hg (by
    cases hv : v.ownBlock with
    | none => exact .inl rfl
    | some g => exact .inr (h2 g hv)), h.own, h.old⟩
theorem Ext.append {S B : Nat} {E : TypeId} {w w' : World} {a : Option Addr} {c : Nat} {A : List Int} {v v' : Value} {X ys : List Int} (h : Ext S B E w a c A v X) (n1 : New B .u8 E w' v' (A ++ X ++ ys)) (n0 : New B .u8 E w' v (A ++ X)) (hg : w.grownBy w' v.ownBlock)
    (ho : v'.ownBlock = v.ownBlock ∨ ∃ g, v'.ownBlock = some g ∧ w.heap.size ≤ g) (hS : S ≤ w.heap.size) : Ext S B E w' a c A v' (X ++ ys) := by
  refine ⟨?_, by rw [← List.append_assoc]; exact n1, fun g hg' => ?_, h.old⟩
  · cases hv : v.ownBlock with
    | none => rw [hv] at hg; exact h.sa.grown' hg (fun b off _ _ => by simp)
    | some g =>
      rw [hv] at hg
      rcases h.own g hv with ha | hs
      · obtain ⟨a2, c2, hv2, hs2⟩ := n0.sl
        have ha2 : a2 = some ⟨g, 0, none⟩ := by
          rw [hv2] at n0 hv
          exact n0.own_addr g hv
        have t := hs2.take A.length
        rw [List.take_left] at t
        refine ⟨h.sa.le, h.sa.max, ?_⟩
        rw [ha, ← ha2]
        exact t.cells
      · exact h.sa.grown' hg (fun b off ha _ e => by
          have := h.old b off ha
          have := Option.some.inj e
          omega)
  · rcases ho with e | ⟨g2, e, hg2⟩
    · exact h.own g (e ▸ hg')
    · rw [e] at hg'
      have := Option.some.inj hg'
      exact .inr (by omega)
end Go.Sg
