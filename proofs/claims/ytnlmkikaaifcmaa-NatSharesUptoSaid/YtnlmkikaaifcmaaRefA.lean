/- signetref6: limb, Proper, FromBytes, Cmp, Bits, Bit, by their contracts. -/
import Derived.Test.YtnlmkikaaifcmaaNatB
set_option linter.unusedVariables false
set_option linter.unusedSimpArgs false
namespace Go.Proofs.Ytnlmkikaaifcmaa
open Go.RowKit Go.Sg

/-- New memory that reads as these numbers. -/
def RowPost (k : IntKind) (E : TypeId) (xs : List Int) (w : World) (e : Ending) (w' : World) : Prop := ∃ v, e = .returned v ∧ New w.heap.size k E w' v xs ∧ Below w.heap.size w w'

end Go.Proofs.Ytnlmkikaaifcmaa
