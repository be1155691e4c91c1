import Derived.Test.YtbmdifeanocahaaDoorZ8
import Derived.Deep.LoopGhost
/- package modn: odd, even, by their contracts. -/
set_option linter.unusedVariables false
set_option linter.unusedSimpArgs false
namespace Go.Proofs.YtbmdifeanocahaaDoor
open Go.RowKit Go.Sg

/-- The greatest common divisor, and what makes it of a. -/
def EuPost (a m : Nat) (w : World) (e : Ending) (w' : World) : Prop := ∃ vg vx g x, e = .returned (.tuple #[vg, vx]) ∧ NumAt w' vg g ∧ NumAt w' vx x ∧ g = Nat.gcd a m ∧ Cg m (x * a) g ∧ x < m ∧ Below w.heap.size w w'

def EvRel (a m S : Nat) (w : World) (g : Nat) (vx vr vs vy : Value) (wr : World) : Prop :=
  ∃ r s x y, NumAt wr vr r ∧ NumAt wr vs s ∧ NumAt wr vx x ∧ NumAt wr vy y ∧ EvInv a m r s x y ∧ g = s ∧ Below S w wr

theorem num_none (w : World) (E : TypeId) : NumAt (w.alloc (.cells #[] E)) (.slice (some ⟨w.heap.size, 0, none⟩) 0 0) 0 :=
  ⟨some ⟨w.heap.size, 0, none⟩, 0, [], rfl, .nil _ _ _ _ (by omega), .nil (by omega), rfl, by simp⟩

theorem num_one' (w : World) (g : Nat) (hg : g = w.heap.size) : NumAt (w.alloc (.cells #[.int .u32 1] 51)) (.slice (some ⟨g, 0, none⟩) 1 1) 1 := by
  subst hg
  exact num_one w
theorem num_none' (w : World) (E : TypeId) (g : Nat) (hg : g = w.heap.size) : NumAt (w.alloc (.cells #[] E)) (.slice (some ⟨g, 0, none⟩) 0 0) 0 := by
  subst hg
  exact num_none w E

def OdRel (a m S : Nat) (w : World) (u v p q : Nat) (vu vv vp vq : Value) (wr : World) : Prop :=
  NumAt wr vu u ∧ NumAt wr vv v ∧ NumAt wr vp p ∧ NumAt wr vq q ∧ OdInv a m u v p q ∧ Below S w wr

end Go.Proofs.YtbmdifeanocahaaDoor
