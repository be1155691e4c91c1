/- What shows that a list has grown, in plain words. No program in sight. -/
import Derived.Test.YtmbifokiebjmmaaDoorLogA
import Derived.Test.YtmbifokiebjmmaaDoorLogW
set_option linter.unusedVariables false
set_option linter.unusedSimpArgs false
namespace Go.Sg
open Go.RowKit
/-- Do they show that the list has grown? -/
def growP (old : List Int) (n : Int) (root : List Int) (m : Int) (p : List (List Int)) : Prop :=
  (old.length = 32 ∧ root.length = 32) ∧ (∀ x ∈ p, x.length = 32) ∧ 0 ≤ n ∧ n ≤ m ∧
    (if n = 0 then p = [] ∧ old = shaD [] ∧ (0 < m ∨ root = old) else bothH pairD 63 m.toNat n.toNat true old p = some (old, root))
instance (old : List Int) (n : Int) (root : List Int) (m : Int) (p : List (List Int)) : Decidable (growP old n root m p) := by unfold growP; infer_instance
end Go.Sg
