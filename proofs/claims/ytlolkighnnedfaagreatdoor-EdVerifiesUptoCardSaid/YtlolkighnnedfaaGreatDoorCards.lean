/-
  DERIVED. GIVEN WITH THE SEED: THE CARDS: each row of YtlolkighnnedfaaGreatDoorRows.lean that lists a variable, with what it lists TIED to the program's text (the seventh form; the later family's looks); each row that meets fmt, with fmt's text TOLD by the authors' own Lean function (tested against real Go, not proved from fmt's source: count such statements apart). THE CARD IS WHAT COUNTS. Prove the row's statement (the work); the ties are given (YtlolkighnnedfaaGreatDoorTie.lean); close each card by the builder's one call (the guide's Derived/Test/ToyasCard.lean, 'card_holds'). Laid BY PROGRAM, IN A SANDBOX (cutbox-door.mjs). By AI agents, Wed Nov 11 2026. No macro, syntax, notation, axiom, sorry.
-/
import Derived.Test.YtlolkighnnedfaaGreatDoorRows
import GoSem.ClaimSeven
namespace Go.Proofs.YtlolkighnnedfaaGreatDoor
namespace Rows

/-- THE TIED CARD OF 'signetlaw13.EdVerifies'. -/
def edVerifiesCard : Claim7 := { stood := { row := edVerifiesRow, standIns := [], harness := (true, "6946b544b505391658f3af00d306d9df0114fd3e6c5d0dd0feb9665881dc14ad"), looks := false }, kinds := [], alts := [], laidByText := true, laidKinds := [.data, .data, .data, .data, .data, .data, .data, .data, .data, .data, .data, .data, .data, .data, .data], laidTests := true, laidLooks := .later }
def EdVerifiesCardSaid : Prop := Claim7.holds Tryz.pinned (.plain (OpenSpec.ofChange edVerifiesSpec)) edVerifiesCard

/-- THE SECOND FORM's CARD OF 'signetlaw13.EdVerifies'. -/
def edVerifiesUptoCard : Claim7 := { stood := { row := edVerifiesUptoRow, standIns := [], harness := (true, "6946b544b505391658f3af00d306d9df0114fd3e6c5d0dd0feb9665881dc14ad"), looks := false }, kinds := [], alts := [], laidByText := true, laidKinds := [.data, .data, .data, .data, .data, .data, .data, .data, .data, .data, .data, .data, .data, .data, .data], laidTests := true, laidLooks := .later }
def EdVerifiesUptoCardSaid : Prop := Claim7.holds Tryz.pinned (.plain (OpenSpec.upto edVerifiesSpec)) edVerifiesUptoCard
end Rows
end Go.Proofs.YtlolkighnnedfaaGreatDoor
