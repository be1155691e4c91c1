/- package modn: size, wrong, rest, minus, Add, Sub, Mul, by their contracts. (Printed by gen_moda.py.) -/
import Derived.Test.YtnlmkikaaifcmaaModN
import Derived.Test.YtnlmkikaaifcmaaNatSl
set_option linter.unusedVariables false
set_option linter.unusedSimpArgs false
namespace Go.Proofs.Ytnlmkikaaifcmaa
open Go.RowKit Go.Sg

/-- A number that lies in a slice. -/
structure NPart where
  a : Option Addr
  cap : Nat
  xs : List Int
def NPart.val (p : NPart) : Value := .slice p.a p.xs.length p.cap
def NPart.num (p : NPart) : Nat := Sg.val p.xs
structure NRows (w : World) (b : Nat) (ps : List NPart) : Prop where
  cell : ∀ j, (h : j < ps.length) → w.cell? ⟨b, j, none⟩ = some ps[j].val
  sl : ∀ p ∈ ps, Sl .u32 w p.a p.cap p.xs
  u : ∀ p ∈ ps, U32 p.xs
  len : ∀ p ∈ ps, p.xs.length ≤ 35184372088832
theorem nrows_new (w : World) (E : TypeId) (ps : List NPart) (cs : Array Value) (hcs : cs = (ps.map NPart.val).toArray) (hs : ∀ p ∈ ps, Sl .u32 w p.a p.cap p.xs) (hu : ∀ p ∈ ps, U32 p.xs) (hl : ∀ p ∈ ps, p.xs.length ≤ 35184372088832) :
    NRows (w.alloc (.cells cs E)) w.heap.size ps := by
  subst hcs
  refine ⟨fun j hj => ?_, fun p hp => (hs p hp).below ((Below.refl _ _).alloc (Nat.le_refl _) _), hu, hl⟩
  rw [cell_of_row (w.alloc (.cells (ps.map NPart.val).toArray E)) w.heap.size j _ E (0, 0) (Go.heap_alloc_new w _)]
  simp [hj]

/-- An answer modulo something, or the code. -/
def ModPost (code : Int) (n : Nat) (w : World) (e : Ending) (w' : World) : Prop :=
  (code ≠ 0 → e = .returned (.tuple #[.slice none 0 0, .int .i64 code])) ∧ (code = 0 → ∃ v, e = .returned (.tuple #[v, .int .i64 0]) ∧ NatRes w.heap.size w' v n) ∧ Below w.heap.size w w'
theorem ModPost.sl {code : Int} {n : Nat} {w : World} {e : Ending} {w' : World} (h : ModPost code n w e w') :
    ∃ a c zs, e = .returned (.tuple #[.slice a zs.length c, .int .i64 code]) ∧ Sl .u32 w' a c zs ∧ Canon zs ∧ U32 zs ∧ (code = 0 → val zs = n) ∧ (code ≠ 0 → zs = []) ∧ Below w.heap.size w w' := by
  by_cases hh : code = 0
  · obtain ⟨v, rfl, hr⟩ := h.2.1 hh
    obtain ⟨a, c, zs, rfl, hs, cz, uz, hv⟩ := hr.sl
    exact ⟨a, c, zs, by rw [hh], hs, cz, uz, fun _ => hv, fun h => absurd hh h, h.2.2⟩
  · exact ⟨none, 0, [], h.1 hh, .nil _ _ _ _ (by omega), .nil, .nil (by omega), fun h => absurd h hh, fun _ => rfl, h.2.2⟩
theorem NatRes.mono {B B' : Nat} {w : World} {v : Value} {n : Nat} (h : NatRes B w v n) (hB : B' ≤ B) : NatRes B' w v n := by
  obtain ⟨z, h1, h2⟩ := h
  exact ⟨z, h1.mono hB, h2⟩


end Go.Proofs.Ytnlmkikaaifcmaa
