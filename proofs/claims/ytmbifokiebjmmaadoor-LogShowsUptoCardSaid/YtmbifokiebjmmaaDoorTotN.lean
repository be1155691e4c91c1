/- The lengths of lists, summed. No program in sight. -/
import Derived.Test.YtmbifokiebjmmaaDoorBase
namespace Go.Sg
def tot (p : List (List Int)) : Nat := (p.map List.length).sum
theorem tot_le {p : List (List Int)} : ∀ s ∈ p, s.length ≤ tot p := by
  induction p with
  | nil => intro s hs; cases hs
  | cons a p ih =>
    intro s hs
    unfold tot at *
    rw [List.map_cons, List.sum_cons]
    rcases List.mem_cons.1 hs with rfl | hs
    · omega
    · have := ih s hs; omega
end Go.Sg
