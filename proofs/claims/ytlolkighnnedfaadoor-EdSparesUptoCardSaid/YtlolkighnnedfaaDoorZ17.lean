import Derived.Test.YtlolkighnnedfaaDoorZ1
import Derived.StillTail
/- A region that draws its order: what yields in whatever world is taken first; where one order alone is left, the rest is walked as a list. No program in sight. -/
set_option linter.unusedVariables false
set_option linter.unusedSimpArgs false
namespace Go.Sg
open Go
section
variable {P : Program} {md : Region.Mode} {Q : Exit → Act → World → Prop}
def pickL (l : List Oper) : List Nat → List Oper
  | [] => []
  | i :: is => (l.drop i).take 1 ++ pickL l is
def seqI (md : Region.Mode) (ops : Array Oper) : List Nat → Array Bool → Bool
  | [], listed => (Region.ready md ops listed).isEmpty
  | k :: is, listed => decide (k < ops.size) && decide (Region.ready md ops listed = [k]) && seqI md ops is (listed.setIfInBounds k true)
theorem wpAny_seqI {l : List Oper} : ∀ (is : List Nat) (listed : Array Bool) (a : Act) (w : World), seqI md l.toArray is listed = true → wpList P l.toArray Q (pickL l is) a w → wpAny P md l.toArray Q is.length listed a w
  | [], _, _, _, hB, h => ⟨by simpa [seqI] using hB, h⟩
  | k :: is, listed, a, w, hB, h => by
    simp only [seqI, Bool.and_eq_true, decide_eq_true_eq, List.size_toArray] at hB
    obtain ⟨⟨hk, hr⟩, hB⟩ := hB
    have h0 : l.toArray[k]? = some l[k] := by simp [hk]
    refine ⟨fun h1 => (by rw [hr] at h1; cases h1), fun i hi => ?_⟩
    rw [hr] at hi
    have hik : i = k := by simpa using hi
    subst hik
    have e : pickL l (i :: is) = l[i] :: pickL l is := by
      rw [pickL, List.drop_eq_getElem_cons hk]
      rfl
    rw [e] at h
    have hw : wpOp P l.toArray Q i (wpList P l.toArray Q (pickL l is)) a w := by unfold wpOp; simp only [h0]; exact h
    exact wpOp_mono (fun a' w' h' => wpAny_seqI is _ a' w' hB h') hw
end
end Go.Sg
