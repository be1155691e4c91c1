/- s[:h] of a slice. -/
import Derived.Test.YtnlmkikaaifcmaaDoorShaK
set_option linter.unusedVariables false
set_option linter.unusedSimpArgs false
namespace Go.Sg
open Go.RowKit
theorem cut_h0 {P : Program} (w : World) (T E : TypeId) (hu : P.underlying T = some (.slice E)) (hs : (P.info? E).map (·.size) = some 1) (a : Option Addr) (n cap h : Nat) (h1 : h ≤ cap) :
    (Instr.sliceAt T (.slice a n cap) none (some (.int .i64 (h : Int))) none).run P w = .ok (.slice a h cap) w := by
  rw [cut_h w T E hu hs a n cap h h1 (h : Int) rfl]
  congr 2
  split
  · rfl
  · cases a with
    | none => rfl
    | some ad =>
      obtain ⟨b, off, sp⟩ := ad
      cases sp <;> simp [Addr.add]
end Go.Sg
