/- signetref6: Sub, times, Mul; signetlaw6.copied, by their contracts. -/
import Derived.Test.YtnlmkikaaifcmaaRefD
import Derived.Test.YtnlmkikaaifcmaaNatE
set_option linter.unusedVariables false
set_option linter.unusedSimpArgs false
namespace Go.Proofs.Ytnlmkikaaifcmaa
open Go.RowKit Go.Sg

set_option maxHeartbeats 1000000 in
theorem copied_c (a : Option Addr) (cap : Nat) (xs : List Int) (w : World) (hx : Sl .u32 w a cap xs) (hl : xs.length ≤ 35184372088832) :
    Calls Try.prog 6 #[.slice a xs.length cap] w (RowPost .u32 25 xs w) := by
  go_enter Try.func6, Try.ntmps6
  go_wp2_with (at_builtin; refine wpList_append_new _ rfl _ _ 23 rfl w.heap.size 25 .u32 4 Try.underlying23 info32 _ [] rfl (New.nil _ _ _ _) _ _ _ xs rfl rfl hx.cells (by simp; omega) (by simp; omega) (Nat.le_refl _) ?_)
  intro v1 w1 hn1 hg1 _
  have hb1 : Below w.heap.size w w1 := (Below.refl _ _).grown hg1 (Nat.le_refl _) fun g hg => by simp [Value.ownBlock] at hg
  clear hg1
  go_wp2_with fail
  go_ret
  exact ⟨_, rfl, hn1, hb1⟩

end Go.Proofs.Ytnlmkikaaifcmaa
