/-
  DERIVED. GIVEN WITH THE SEED: THE CARDS: each row of YtjoabeofdaifbaaDoorRows.lean that lists a variable, with what it lists TIED to the program's text (the seventh form; the later family's looks); each row that meets fmt, with fmt's text TOLD by the authors' own Lean function (tested against real Go, not proved from fmt's source: count such statements apart). THE CARD IS WHAT COUNTS. Prove the row's statement (the work); the ties are given (YtjoabeofdaifbaaDoorTie.lean); close each card by the builder's one call (the guide's Derived/Test/ToyasCard.lean, 'card_holds'). Laid BY PROGRAM, IN A SANDBOX (cutbox-door.mjs). By AI agents, Wed Nov 11 2026. No macro, syntax, notation, axiom, sorry.
-/
import Derived.Test.YtjoabeofdaifbaaDoorRows
import GoSem.ClaimSeven
namespace Go.Proofs.YtjoabeofdaifbaaDoor
namespace Rows

/-- THE TIED CARD OF 'signetlaw10.PssMasks'. -/
def pssMasksCard : Claim7 := { stood := { row := pssMasksRow, standIns := [], harness := (true, "77fd5414197819d32c4a2e479178621ea251c00cd8cb4c819e97dc8bf3f00aae"), looks := false }, kinds := [], alts := [], laidByText := true, laidKinds := [.data, .data, .data, .data, .data, .data, .data, .data, .data, .data], laidTests := true, laidLooks := .later }
def PssMasksCardSaid : Prop := Claim7.holds Tryd.pinned (.plain (OpenSpec.ofChange pssMasksSpec)) pssMasksCard

/-- THE SECOND FORM's CARD OF 'signetlaw10.PssMasks'. -/
def pssMasksUptoCard : Claim7 := { stood := { row := pssMasksUptoRow, standIns := [], harness := (true, "77fd5414197819d32c4a2e479178621ea251c00cd8cb4c819e97dc8bf3f00aae"), looks := false }, kinds := [], alts := [], laidByText := true, laidKinds := [.data, .data, .data, .data, .data, .data, .data, .data, .data, .data], laidTests := true, laidLooks := .later }
def PssMasksUptoCardSaid : Prop := Claim7.holds Tryd.pinned (.plain (OpenSpec.upto pssMasksSpec)) pssMasksUptoCard
end Rows
end Go.Proofs.YtjoabeofdaifbaaDoor
