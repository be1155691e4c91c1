/- package sha: Sum of parts by its contract. -/
import Derived.Test.YtnlmkikaaifcmaaDoorShaG
set_option linter.unusedVariables false
set_option linter.unusedSimpArgs false
namespace Go.Sg
open Go.RowKit

/-- A part: its address, its room, its bytes. -/
structure Part where
  a : Option Addr
  cap : Nat
  xs : List Int
def Part.val (p : Part) : Value := .slice p.a p.xs.length p.cap
/-- The parts' bytes, one behind the other. -/
def flat (ps : List Part) : List Int := ps.flatMap (·.xs)
/-- A row of slices of bytes at an address that may be missing where there is none. -/
structure Rows_ (w : World) (A : Option Addr) (ps : List Part) : Prop where
  at_ : 0 < ps.length → ∃ b off, A = some ⟨b, off, none⟩ ∧ ∀ j (h : j < ps.length), w.cell? ⟨b, off + j, none⟩ = some (ps[j]).val
  sl : ∀ p ∈ ps, Sl .u8 w p.a p.cap p.xs
  u8 : ∀ p ∈ ps, U8 p.xs
theorem Rows_.nil (w : World) (A : Option Addr) : Rows_ w A [] := ⟨fun h => by simp at h, fun p hp => by simp at hp, fun p hp => by simp at hp⟩
theorem Rows_.below {w w' : World} {A : Option Addr} {ps : List Part} (h : Rows_ w A ps) (hb : Below w.heap.size w w') : Rows_ w' A ps := by
  refine ⟨fun hp => ?_, fun p hp => (h.sl p hp).below hb, h.u8⟩
  obtain ⟨b, off, rfl, hc⟩ := h.at_ hp
  exact ⟨b, off, rfl, fun j hj => (hb.cell (World.block_lt_of_cell? w _ (hc j hj))).trans (hc j hj)⟩
theorem flat_take_succ (ps : List Part) (k : Nat) (h : k < ps.length) : flat (ps.take (k + 1)) = flat (ps.take k) ++ (ps[k]).xs := by
  unfold flat
  rw [List.take_succ_eq_append_getElem h, List.flatMap_append]; simp
theorem flat_len_le (ps : List Part) (k : Nat) : (flat (ps.take k)).length ≤ (flat ps).length := by
  have h : flat ps = flat (ps.take k) ++ flat (ps.drop k) := by
    unfold flat
    rw [← List.flatMap_append, List.take_append_drop]
  rw [h, List.length_append]; omega
theorem sha_no {h : Int} (hh : ¬ IsHash h) (T : List Int) : sha h T = [] := by
  unfold sha
  rw [if_neg fun e => hh (.inl e), if_neg fun e => hh (.inr (.inl e)), if_neg fun e => hh (.inr (.inr e))]
instance (h : Int) : Decidable (IsHash h) := by unfold IsHash; infer_instance
end Go.Sg
namespace Go.Proofs.YtnlmkikaaifcmaaDoor
open Go.RowKit Go.Sg

end Go.Proofs.YtnlmkikaaifcmaaDoor
