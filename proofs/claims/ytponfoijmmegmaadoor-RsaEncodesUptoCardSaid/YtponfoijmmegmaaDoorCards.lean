/-
  DERIVED. GIVEN WITH THE SEED: THE CARDS: each row of YtponfoijmmegmaaDoorRows.lean that lists a variable, with what it lists TIED to the program's text (the seventh form; the later family's looks); each row that meets fmt, with fmt's text TOLD by the authors' own Lean function (tested against real Go, not proved from fmt's source: count such statements apart). THE CARD IS WHAT COUNTS. Prove the row's statement (the work); the ties are given (YtponfoijmmegmaaDoorTie.lean); close each card by the builder's one call (the guide's Derived/Test/ToyasCard.lean, 'card_holds'). Laid BY PROGRAM, IN A SANDBOX (cutbox-door.mjs). By AI agents, Wed Nov 11 2026. No macro, syntax, notation, axiom, sorry.
-/
import Derived.Test.YtponfoijmmegmaaDoorRows
import GoSem.ClaimSeven
namespace Go.Proofs.YtponfoijmmegmaaDoor
namespace Rows

/-- THE TIED CARD OF 'signetlaw10.PssEncodes'. -/
def pssEncodesCard : Claim7 := { stood := { row := pssEncodesRow, standIns := [], harness := (true, "9c185a222b4df4f33b5c1363c85be60fce061361923048276a452b137009dce8"), looks := false }, kinds := [], alts := [], laidByText := true, laidKinds := [.data, .data, .data, .data, .data, .data, .data, .data, .data, .data], laidTests := true, laidLooks := .later }
def PssEncodesCardSaid : Prop := Claim7.holds Tryd.pinned (.plain (OpenSpec.ofChange pssEncodesSpec)) pssEncodesCard

/-- THE TIED CARD OF 'signetlaw10.PssHolds'. -/
def pssHoldsCard : Claim7 := { stood := { row := pssHoldsRow, standIns := [], harness := (true, "9c185a222b4df4f33b5c1363c85be60fce061361923048276a452b137009dce8"), looks := false }, kinds := [], alts := [], laidByText := true, laidKinds := [.data, .data, .data, .data, .data, .data, .data, .data, .data, .data], laidTests := true, laidLooks := .later }
def PssHoldsCardSaid : Prop := Claim7.holds Tryd.pinned (.plain (OpenSpec.ofChange pssHoldsSpec)) pssHoldsCard

/-- THE TIED CARD OF 'signetlaw10.PssMaskParts'. -/
def pssMaskPartsCard : Claim7 := { stood := { row := pssMaskPartsRow, standIns := [], harness := (true, "9c185a222b4df4f33b5c1363c85be60fce061361923048276a452b137009dce8"), looks := false }, kinds := [], alts := [], laidByText := true, laidKinds := [.data, .data, .data, .data, .data], laidTests := true, laidLooks := .later }
def PssMaskPartsCardSaid : Prop := Claim7.holds Tryd.pinned (.plain (OpenSpec.ofChange pssMaskPartsSpec)) pssMaskPartsCard

/-- THE TIED CARD OF 'signetlaw10.PssSpares'. -/
def pssSparesCard : Claim7 := { stood := { row := pssSparesRow, standIns := [], harness := (true, "9c185a222b4df4f33b5c1363c85be60fce061361923048276a452b137009dce8"), looks := false }, kinds := [], alts := [], laidByText := true, laidKinds := [.data, .data, .data, .data, .data], laidTests := true, laidLooks := .later }
def PssSparesCardSaid : Prop := Claim7.holds Tryd.pinned (.plain (OpenSpec.ofChange pssSparesSpec)) pssSparesCard

/-- THE TIED CARD OF 'signetlaw10.PssUndone'. -/
def pssUndoneCard : Claim7 := { stood := { row := pssUndoneRow, standIns := [], harness := (true, "9c185a222b4df4f33b5c1363c85be60fce061361923048276a452b137009dce8"), looks := false }, kinds := [], alts := [], laidByText := true, laidKinds := [.data, .data, .data, .data, .data], laidTests := true, laidLooks := .later }
def PssUndoneCardSaid : Prop := Claim7.holds Tryd.pinned (.plain (OpenSpec.ofChange pssUndoneSpec)) pssUndoneCard

/-- THE TIED CARD OF 'signetlaw9.RsaEncodes'. -/
def rsaEncodesCard : Claim7 := { stood := { row := rsaEncodesRow, standIns := [], harness := (true, "9c185a222b4df4f33b5c1363c85be60fce061361923048276a452b137009dce8"), looks := false }, kinds := [], alts := [], laidByText := true, laidKinds := [.data, .data, .data, .data, .data, .data, .data, .data, .data, .data, .data], laidTests := true, laidLooks := .later }
def RsaEncodesCardSaid : Prop := Claim7.holds Tryd.pinned (.plain (OpenSpec.ofChange rsaEncodesSpec)) rsaEncodesCard

/-- THE SECOND FORM's CARD OF 'signetlaw10.PssEncodes'. -/
def pssEncodesUptoCard : Claim7 := { stood := { row := pssEncodesUptoRow, standIns := [], harness := (true, "9c185a222b4df4f33b5c1363c85be60fce061361923048276a452b137009dce8"), looks := false }, kinds := [], alts := [], laidByText := true, laidKinds := [.data, .data, .data, .data, .data, .data, .data, .data, .data, .data], laidTests := true, laidLooks := .later }
def PssEncodesUptoCardSaid : Prop := Claim7.holds Tryd.pinned (.plain (OpenSpec.upto pssEncodesSpec)) pssEncodesUptoCard

/-- THE SECOND FORM's CARD OF 'signetlaw10.PssHolds'. -/
def pssHoldsUptoCard : Claim7 := { stood := { row := pssHoldsUptoRow, standIns := [], harness := (true, "9c185a222b4df4f33b5c1363c85be60fce061361923048276a452b137009dce8"), looks := false }, kinds := [], alts := [], laidByText := true, laidKinds := [.data, .data, .data, .data, .data, .data, .data, .data, .data, .data], laidTests := true, laidLooks := .later }
def PssHoldsUptoCardSaid : Prop := Claim7.holds Tryd.pinned (.plain (OpenSpec.upto pssHoldsSpec)) pssHoldsUptoCard

/-- THE SECOND FORM's CARD OF 'signetlaw10.PssMaskParts'. -/
def pssMaskPartsUptoCard : Claim7 := { stood := { row := pssMaskPartsUptoRow, standIns := [], harness := (true, "9c185a222b4df4f33b5c1363c85be60fce061361923048276a452b137009dce8"), looks := false }, kinds := [], alts := [], laidByText := true, laidKinds := [.data, .data, .data, .data, .data], laidTests := true, laidLooks := .later }
def PssMaskPartsUptoCardSaid : Prop := Claim7.holds Tryd.pinned (.plain (OpenSpec.upto pssMaskPartsSpec)) pssMaskPartsUptoCard

/-- THE SECOND FORM's CARD OF 'signetlaw10.PssSpares'. -/
def pssSparesUptoCard : Claim7 := { stood := { row := pssSparesUptoRow, standIns := [], harness := (true, "9c185a222b4df4f33b5c1363c85be60fce061361923048276a452b137009dce8"), looks := false }, kinds := [], alts := [], laidByText := true, laidKinds := [.data, .data, .data, .data, .data], laidTests := true, laidLooks := .later }
def PssSparesUptoCardSaid : Prop := Claim7.holds Tryd.pinned (.plain (OpenSpec.upto pssSparesSpec)) pssSparesUptoCard

/-- THE SECOND FORM's CARD OF 'signetlaw10.PssUndone'. -/
def pssUndoneUptoCard : Claim7 := { stood := { row := pssUndoneUptoRow, standIns := [], harness := (true, "9c185a222b4df4f33b5c1363c85be60fce061361923048276a452b137009dce8"), looks := false }, kinds := [], alts := [], laidByText := true, laidKinds := [.data, .data, .data, .data, .data], laidTests := true, laidLooks := .later }
def PssUndoneUptoCardSaid : Prop := Claim7.holds Tryd.pinned (.plain (OpenSpec.upto pssUndoneSpec)) pssUndoneUptoCard

/-- THE SECOND FORM's CARD OF 'signetlaw9.RsaEncodes'. -/
def rsaEncodesUptoCard : Claim7 := { stood := { row := rsaEncodesUptoRow, standIns := [], harness := (true, "9c185a222b4df4f33b5c1363c85be60fce061361923048276a452b137009dce8"), looks := false }, kinds := [], alts := [], laidByText := true, laidKinds := [.data, .data, .data, .data, .data, .data, .data, .data, .data, .data, .data], laidTests := true, laidLooks := .later }
def RsaEncodesUptoCardSaid : Prop := Claim7.holds Tryd.pinned (.plain (OpenSpec.upto rsaEncodesSpec)) rsaEncodesUptoCard
end Rows
end Go.Proofs.YtponfoijmmegmaaDoor
