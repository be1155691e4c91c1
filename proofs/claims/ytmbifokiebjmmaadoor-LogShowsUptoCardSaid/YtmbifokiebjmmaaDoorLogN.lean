/- A literal of two strings. No program in sight. -/
import Derived.Test.YtmbifokiebjmmaaDoorLogR
namespace Go.Sg
open Go.RowKit
theorem ss_two (w : World) (E : TypeId) (x y : List Int) (ux : U8 x) (uy : U8 y) : Ss (w.alloc (.cells #[str x, str y] E)) (some ⟨w.heap.size, 0, none⟩) 2 [x, y] := by
  refine ⟨fun s hs => ?_, by simp, by omega, fun _ => ⟨w.heap.size, 0, rfl, fun j hj => ?_⟩⟩
  · simp only [List.mem_cons, List.not_mem_nil, or_false] at hs
    rcases hs with rfl | rfl
    · exact ux
    · exact uy
  · rw [Nat.zero_add, cell_of_row (w.alloc (.cells #[str x, str y] E)) w.heap.size j _ E (0, 0) (Go.heap_alloc_new w _)]
    have : j = 0 ∨ j = 1 := by simp at hj; omega
    rcases this with rfl | rfl <;> rfl
end Go.Sg
