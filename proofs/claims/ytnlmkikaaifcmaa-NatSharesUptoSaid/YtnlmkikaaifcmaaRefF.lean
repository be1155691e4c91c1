/- signetref6: times, Mul, by their contracts. -/
import Derived.Test.YtnlmkikaaifcmaaRefE
set_option linter.unusedVariables false
set_option linter.unusedSimpArgs false
namespace Go.Proofs.Ytnlmkikaaifcmaa
open Go.RowKit Go.Sg

def TimesPost (a d ahead len : Nat) (w : World) (e : Ending) (w' : World) : Prop :=
  ∃ v L, e = .returned v ∧ New w.heap.size .u32 25 w' v L ∧ L.length = ahead + len + 1 ∧ U32 L ∧ val L = R ^ ahead * (a * d) ∧ Below w.heap.size w w'

theorem times_step {P T A d c x : Nat} (h : T + P * c = A * d) : (T + P * ((x * d + c) % R)) + P * R * ((x * d + c) / R) = (A + P * x) * d := by
  have := column P (x * d + c)
  rw [Nat.mul_add] at this
  rw [Nat.add_mul, ← h, Nat.mul_assoc P x]
  omega

end Go.Proofs.Ytnlmkikaaifcmaa
