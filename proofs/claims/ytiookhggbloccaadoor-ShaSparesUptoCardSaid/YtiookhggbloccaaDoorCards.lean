/-
  DERIVED. GIVEN WITH THE SEED: THE CARDS: each row of YtiookhggbloccaaDoorRows.lean that lists a variable, with what it lists TIED to the program's text (the seventh form; the later family's looks); each row that meets fmt, with fmt's text TOLD by the authors' own Lean function (tested against real Go, not proved from fmt's source: count such statements apart). THE CARD IS WHAT COUNTS. Prove the row's statement (the work); the ties are given (YtiookhggbloccaaDoorTie.lean); close each card by the builder's one call (the guide's Derived/Test/ToyasCard.lean, 'card_holds'). Laid BY PROGRAM, IN A SANDBOX (cutbox-door.mjs). By AI agents, Wed Nov 11 2026. No macro, syntax, notation, axiom, sorry.
-/
import Derived.Test.YtiookhggbloccaaDoorRows
import GoSem.ClaimSeven
namespace Go.Proofs.YtiookhggbloccaaDoor
namespace Rows

/-- THE TIED CARD OF 'signetlaw4.ShaSpares'. -/
def shaSparesCard : Claim7 := { stood := { row := shaSparesRow, standIns := [], harness := (true, "abc3582702e32af085f3b8bfd9ce51b0257c9837e5cc495605c453929654d34b"), looks := false }, kinds := [], alts := [], laidByText := true, laidKinds := [.data, .data, .data, .data, .data], laidTests := true, laidLooks := .later }
def ShaSparesCardSaid : Prop := Claim7.holds Tryd.pinned (.plain (OpenSpec.ofChange shaSparesSpec)) shaSparesCard

/-- THE SECOND FORM's CARD OF 'signetlaw4.ShaSpares'. -/
def shaSparesUptoCard : Claim7 := { stood := { row := shaSparesUptoRow, standIns := [], harness := (true, "abc3582702e32af085f3b8bfd9ce51b0257c9837e5cc495605c453929654d34b"), looks := false }, kinds := [], alts := [], laidByText := true, laidKinds := [.data, .data, .data, .data, .data], laidTests := true, laidLooks := .later }
def ShaSparesUptoCardSaid : Prop := Claim7.holds Tryd.pinned (.plain (OpenSpec.upto shaSparesSpec)) shaSparesUptoCard
end Rows
end Go.Proofs.YtiookhggbloccaaDoor
