/- Lists of one length, each in an array of its own. No program in sight. -/
import Derived.Test.YtiookhggbloccaaDoorSpN
import Derived.Test.YtiookhggbloccaaDoorRowsV
import Derived.Test.YtiookhggbloccaaDoorRepN
set_option linter.unusedVariables false
set_option linter.unusedSimpArgs false
namespace Go.Sg
open Go.RowKit
structure Own (w : World) (E : TypeId) (n z : Nat) (G C : Nat → Nat) (Z : Nat → List Int) : Prop where
  pre : ∀ j, j < n → Pre w (G j) .u8 E (C j) (Z j)
  len : ∀ j, j < n → (Z j).length = z
  ne : ∀ i j, i < n → j < n → i ≠ j → G i ≠ G j
theorem Own.keep {w w' : World} {E : TypeId} {n z : Nat} {G C : Nat → Nat} {Z : Nat → List Int} (h : Own w E n z G C Z) (hb : Below w.heap.size w w') : Own w' E n z G C Z :=
  ⟨fun j hj => (h.pre j hj).keep hb, h.len, h.ne⟩
theorem Own.grown {w w' : World} {E : TypeId} {n z : Nat} {G C : Nat → Nat} {Z : Nat → List Int} {row : Option Nat} (h : Own w E n z G C Z) (hg : w.grownBy w' row) (hne : ∀ j, j < n → some (G j) ≠ row) : Own w' E n z G C Z :=
  ⟨fun j hj => (h.pre j hj).grown hg (hne j hj), h.len, h.ne⟩
theorem Own.set {w : World} {E : TypeId} {n z : Nat} {G C : Nat → Nat} {Z : Nat → List Int} (h : Own w E n z G C Z) (i k : Nat) (hi : i < n) (y : Int) : Own (w.setCell ⟨G i, k, none⟩ (.int .u8 y)) E n z G C (fun j => if j = i then (Z i).set k y else Z j) := by
  refine ⟨fun j hj => ?_, fun j hj => ?_, h.ne⟩
  · by_cases e : j = i
    · subst e
      simp only [if_pos]
      exact (h.pre j hj).set k y
    · simp only [if_neg e]
      exact (h.pre j hj).other (h.ne j i hj hi e) k _
  · by_cases e : j = i
    · subst e
      simp only [if_pos, List.length_set]
      exact h.len j hj
    · simp only [if_neg e]
      exact h.len j hj
theorem Own.sl {w : World} {E : TypeId} {n z : Nat} {G C : Nat → Nat} {Z : Nat → List Int} (h : Own w E n z G C Z) (j : Nat) (hj : j < n) : Sl .u8 w (some ⟨G j, 0, none⟩) (C j) (Z j) := (h.pre j hj).sl
theorem Own.lt {w : World} {E : TypeId} {n z : Nat} {G C : Nat → Nat} {Z : Nat → List Int} (h : Own w E n z G C Z) (j : Nat) (hj : j < n) : G j < w.heap.size := (h.pre j hj).lt
/-- Six of a kind. -/
def six {α : Type} (a b c d e f : α) : Nat → α
  | 0 => a
  | 1 => b
  | 2 => c
  | 3 => d
  | 4 => e
  | _ => f
theorem six_ind {P : Nat → Prop} (h0 : P 0) (h1 : P 1) (h2 : P 2) (h3 : P 3) (h4 : P 4) (h5 : P 5) : ∀ j, j < 6 → P j := by
  intro j hj
  have : j = 0 ∨ j = 1 ∨ j = 2 ∨ j = 3 ∨ j = 4 ∨ j = 5 := by omega
  rcases this with rfl | rfl | rfl | rfl | rfl | rfl <;> assumption
theorem Own.six {w : World} {E : TypeId} {z a0 a1 a2 a3 a4 a5 c0 c1 c2 c3 c4 c5 : Nat} {x0 x1 x2 x3 x4 x5 : List Int}
    (p0 : Pre w a0 .u8 E c0 x0) (p1 : Pre w a1 .u8 E c1 x1) (p2 : Pre w a2 .u8 E c2 x2) (p3 : Pre w a3 .u8 E c3 x3) (p4 : Pre w a4 .u8 E c4 x4) (p5 : Pre w a5 .u8 E c5 x5)
    (l0 : x0.length = z) (l1 : x1.length = z) (l2 : x2.length = z) (l3 : x3.length = z) (l4 : x4.length = z) (l5 : x5.length = z)
    (h : a0 < a4 ∧ a4 < a1 ∧ a1 < a2 ∧ a2 < a5 ∧ a5 < a3) : Own w E 6 z (Sg.six a0 a1 a2 a3 a4 a5) (Sg.six c0 c1 c2 c3 c4 c5) (Sg.six x0 x1 x2 x3 x4 x5) := by
  refine ⟨six_ind p0 p1 p2 p3 p4 p5, six_ind l0 l1 l2 l3 l4 l5, fun i j hi hj hne e => ?_⟩
  have hi6 : i = 0 ∨ i = 1 ∨ i = 2 ∨ i = 3 ∨ i = 4 ∨ i = 5 := by omega
  have hj6 : j = 0 ∨ j = 1 ∨ j = 2 ∨ j = 3 ∨ j = 4 ∨ j = 5 := by omega
  rcases hi6 with rfl | rfl | rfl | rfl | rfl | rfl <;> rcases hj6 with rfl | rfl | rfl | rfl | rfl | rfl <;> first | exact absurd rfl hne | (simp only [Sg.six] at e; omega)
/-- A row whose places hold six such lists. -/
def RowL (w : World) (g z : Nat) (G C : Nat → Nat) : Prop := g < w.heap.size ∧ ∀ j, j < 6 → w.cell? ⟨g, j, none⟩ = some (.slice (some ⟨G j, 0, none⟩) z (C j))
theorem RowL.grown {w w' : World} {g z : Nat} {G C : Nat → Nat} {row : Option Nat} (h : RowL w g z G C) (hg : w.grownBy w' row) (hne : some g ≠ row) : RowL w' g z G C :=
  ⟨Nat.lt_of_lt_of_le h.1 hg.size, fun j hj => (World.cell?_of_block (a := ⟨g, j, none⟩) (hg.block g h.1 hne)).trans (h.2 j hj)⟩
theorem RowL.six (w : World) (E : TypeId) (z a0 a1 a2 a3 a4 a5 c0 c1 c2 c3 c4 c5 : Nat) (g : Nat) (hg : g = w.heap.size) :
    RowL (w.alloc (.cells #[.slice (some ⟨a0, 0, none⟩) z c0, .slice (some ⟨a1, 0, none⟩) z c1, .slice (some ⟨a2, 0, none⟩) z c2, .slice (some ⟨a3, 0, none⟩) z c3, .slice (some ⟨a4, 0, none⟩) z c4, .slice (some ⟨a5, 0, none⟩) z c5] E)) g z (Sg.six a0 a1 a2 a3 a4 a5) (Sg.six c0 c1 c2 c3 c4 c5) := by
  subst hg
  refine ⟨by simp, ?_⟩
  have h : ∀ (cs : Array Value) (j : Nat), (w.alloc (.cells cs E)).cell? ⟨w.heap.size, j, none⟩ = cs[j]? := by
    intro cs j
    rw [cell_of_row (w.alloc (.cells cs E)) w.heap.size j cs E (0, 0) (by show (w.heap.push _)[w.heap.size]? = _; simp)]
  apply six_ind <;> (rw [h]; rfl)
/-- The list at place j, overwritten. -/
def rep6 (n j : Nat) : List Int := List.replicate n (60 + (j : Int))
theorem rep6_len (n j : Nat) : (rep6 n j).length = n := List.length_replicate
theorem NewV.aside {B : Nat} {E E' : TypeId} {w : World} {v : Value} {vs : List Value} {b cap : Nat} {xs : List Int} {k : IntKind} (h : NewV B E w v vs) (p : Pre w b k E' cap xs) (hne : E' ≠ E) : some b ≠ v.ownBlock := by
  rcases h with ⟨rfl, _⟩ | ⟨g', cp, cs, rfl, hbg, hh, _⟩
  · simp [Value.ownBlock]
  · intro e
    simp only [Value.ownBlock, Option.some.injEq] at e
    subst e
    obtain ⟨cs', hh', _⟩ := p
    rw [hh] at hh'
    simp only [Option.some.injEq, Obj.cells.injEq] at hh'
    exact hne hh'.2.1.symm
/-- The lists that have grown out of the first ones. -/
structure Longs (S T : Nat) (E : TypeId) (G : Nat → Nat) (n : Nat) (w : World) (vs : List Value) : Prop where
  all : ∀ j, j < vs.length → ∃ b c, vs[j]? = some (.slice (some ⟨b, 0, none⟩) (n + 70) c) ∧ Pre w b .u8 E c (rep6 n j ++ List.replicate 70 (80 + (j : Int))) ∧ (b = G j ∨ S ≤ b) ∧ b < T
theorem Longs.nil (S T : Nat) (E : TypeId) (G : Nat → Nat) (n : Nat) (w : World) : Longs S T E G n w [] := ⟨fun j hj => by simp at hj⟩
theorem Longs.mono {S T T' : Nat} {E : TypeId} {G : Nat → Nat} {n : Nat} {w : World} {vs : List Value} (h : Longs S T E G n w vs) (hT : T ≤ T') : Longs S T' E G n w vs :=
  ⟨fun j hj => by obtain ⟨b, c, h1, h2, h3, h4⟩ := h.all j hj; exact ⟨b, c, h1, h2, h3, by omega⟩⟩
theorem Longs.grown {S T : Nat} {E : TypeId} {G : Nat → Nat} {n : Nat} {w w' : World} {vs : List Value} {row : Option Nat} (h : Longs S T E G n w vs) (hg : w.grownBy w' row)
    (hr : ∀ g, row = some g → (∀ j, j < vs.length → G j ≠ g) ∧ g < S ∨ T ≤ g) : Longs S T E G n w' vs :=
  ⟨fun j hj => by
    obtain ⟨b, c, h1, h2, h3, h4⟩ := h.all j hj
    refine ⟨b, c, h1, h2.grown hg (fun e => ?_), h3, h4⟩
    rcases hr b e.symm with ⟨h5, h6⟩ | h5
    · rcases h3 with h3 | h3
      · exact h5 j hj h3.symm
      · omega
    · omega⟩
theorem Longs.aside {S T B : Nat} {E E' : TypeId} {G : Nat → Nat} {n : Nat} {w w' : World} {vs : List Value} {v : Value} {us : List Value} (h : Longs S T E G n w vs) (hv : NewV B E' w v us) (hne : E ≠ E') (hg : w.grownBy w' v.ownBlock) : Longs S T E G n w' vs :=
  ⟨fun j hj => by
    obtain ⟨b, c, h1, h2, h3, h4⟩ := h.all j hj
    exact ⟨b, c, h1, h2.grown hg (hv.aside h2 hne), h3, h4⟩⟩
theorem Longs.push {S T : Nat} {E : TypeId} {G : Nat → Nat} {n : Nat} {w : World} {vs : List Value} (h : Longs S T E G n w vs) {i b c : Nat} (hi : vs.length = i) (hp : Pre w b .u8 E c (rep6 n i ++ List.replicate 70 (80 + (i : Int)))) (hb : b = G i ∨ S ≤ b) (hT : b < T) :
    Longs S T E G n w (vs ++ [.slice (some ⟨b, 0, none⟩) (n + 70) c]) :=
  ⟨fun j hj => by
    rw [List.length_append, List.length_singleton] at hj
    by_cases e : j < vs.length
    · obtain ⟨b', c', h1, h2⟩ := h.all j e
      exact ⟨b', c', by rw [List.getElem?_append_left e]; exact h1, h2⟩
    · obtain rfl : j = i := by omega
      refine ⟨b, c, ?_, hp, hb, hT⟩
      rw [← hi, List.getElem?_append_right (Nat.le_refl _), Nat.sub_self]
      rfl⟩
end Go.Sg
