/-
  DERIVED. GIVEN WITH THE SEED: THE CARDS: each row of YtlolkighnnedfaaDoorRows.lean that lists a variable, with what it lists TIED to the program's text (the seventh form; the later family's looks); each row that meets fmt, with fmt's text TOLD by the authors' own Lean function (tested against real Go, not proved from fmt's source: count such statements apart). THE CARD IS WHAT COUNTS. Prove the row's statement (the work); the ties are given (YtlolkighnnedfaaDoorTie.lean); close each card by the builder's one call (the guide's Derived/Test/ToyasCard.lean, 'card_holds'). Laid BY PROGRAM, IN A SANDBOX (cutbox-door.mjs). By AI agents, Wed Nov 11 2026. No macro, syntax, notation, axiom, sorry.
-/
import Derived.Test.YtlolkighnnedfaaDoorRows
import GoSem.ClaimSeven
namespace Go.Proofs.YtlolkighnnedfaaDoor
namespace Rows

/-- THE TIED CARD OF 'signetlaw13.EdSpares'. -/
def edSparesCard : Claim7 := { stood := { row := edSparesRow, standIns := [], harness := (true, "916a877c66c4ed06c6de721c41c38f7fe0adc88241fc9dc8f10da2cd52d2996f"), looks := false }, kinds := [], alts := [], laidByText := true, laidKinds := [.data, .data, .data, .data, .data, .data, .data, .data, .data, .data], laidTests := true, laidLooks := .later }
def EdSparesCardSaid : Prop := Claim7.holds Tryd.pinned (.plain (OpenSpec.ofChange edSparesSpec)) edSparesCard

/-- THE TIED CARD OF 'signetlaw13.EdJust'. -/
def edJustCard : Claim7 := { stood := { row := edJustRow, standIns := [], harness := (true, "916a877c66c4ed06c6de721c41c38f7fe0adc88241fc9dc8f10da2cd52d2996f"), looks := false }, kinds := [], alts := [], laidByText := true, laidKinds := [.data, .data, .data, .data, .data, .data, .data, .data, .data, .data], laidTests := true, laidLooks := .later }
def EdJustCardSaid : Prop := Claim7.holds Tryd.pinned (.plain (OpenSpec.ofChange edJustSpec)) edJustCard

/-- THE TIED CARD OF 'signetlaw13.EdSums'. -/
def edSumsCard : Claim7 := { stood := { row := edSumsRow, standIns := [], harness := (true, "916a877c66c4ed06c6de721c41c38f7fe0adc88241fc9dc8f10da2cd52d2996f"), looks := false }, kinds := [], alts := [], laidByText := true, laidKinds := [.data, .data], laidTests := true, laidLooks := .later }
def EdSumsCardSaid : Prop := Claim7.holds Tryd.pinned (.plain (OpenSpec.ofChange edSumsSpec)) edSumsCard

/-- THE TIED CARD OF 'signetlaw13.EdBytes'. -/
def edBytesCard : Claim7 := { stood := { row := edBytesRow, standIns := [], harness := (true, "916a877c66c4ed06c6de721c41c38f7fe0adc88241fc9dc8f10da2cd52d2996f"), looks := false }, kinds := [], alts := [], laidByText := true, laidKinds := [.data, .data, .data, .data, .data], laidTests := true, laidLooks := .later }
def EdBytesCardSaid : Prop := Claim7.holds Tryd.pinned (.plain (OpenSpec.ofChange edBytesSpec)) edBytesCard

/-- THE TIED CARD OF 'signetlaw13.EdGroup'. -/
def edGroupCard : Claim7 := { stood := { row := edGroupRow, standIns := [], harness := (true, "916a877c66c4ed06c6de721c41c38f7fe0adc88241fc9dc8f10da2cd52d2996f"), looks := false }, kinds := [], alts := [], laidByText := true, laidKinds := [.data, .data, .data, .data, .data, .data, .data, .data, .data, .data], laidTests := true, laidLooks := .later }
def EdGroupCardSaid : Prop := Claim7.holds Tryd.pinned (.plain (OpenSpec.ofChange edGroupSpec)) edGroupCard

/-- THE TIED CARD OF 'signetlaw13.EdBack'. -/
def edBackCard : Claim7 := { stood := { row := edBackRow, standIns := [], harness := (true, "916a877c66c4ed06c6de721c41c38f7fe0adc88241fc9dc8f10da2cd52d2996f"), looks := false }, kinds := [], alts := [], laidByText := true, laidKinds := [.data, .data, .data, .data, .data, .data, .data, .data, .data, .data], laidTests := true, laidLooks := .later }
def EdBackCardSaid : Prop := Claim7.holds Tryd.pinned (.plain (OpenSpec.ofChange edBackSpec)) edBackCard

/-- THE TIED CARD OF 'signetlaw13.EdOne'. -/
def edOneCard : Claim7 := { stood := { row := edOneRow, standIns := [], harness := (true, "916a877c66c4ed06c6de721c41c38f7fe0adc88241fc9dc8f10da2cd52d2996f"), looks := false }, kinds := [], alts := [], laidByText := true, laidKinds := [.data, .data, .data, .data, .data, .data, .data, .data, .data, .data], laidTests := true, laidLooks := .later }
def EdOneCardSaid : Prop := Claim7.holds Tryd.pinned (.plain (OpenSpec.ofChange edOneSpec)) edOneCard

/-- THE TIED CARD OF 'signetlaw13.EdMuls'. -/
def edMulsCard : Claim7 := { stood := { row := edMulsRow, standIns := [], harness := (true, "916a877c66c4ed06c6de721c41c38f7fe0adc88241fc9dc8f10da2cd52d2996f"), looks := false }, kinds := [], alts := [], laidByText := true, laidKinds := [.data, .data, .data, .data, .data, .data, .data, .data, .data, .data], laidTests := true, laidLooks := .later }
def EdMulsCardSaid : Prop := Claim7.holds Tryd.pinned (.plain (OpenSpec.ofChange edMulsSpec)) edMulsCard

/-- THE TIED CARD OF 'signetlaw13.EdComplete'. -/
def edCompleteCard : Claim7 := { stood := { row := edCompleteRow, standIns := [], harness := (true, "916a877c66c4ed06c6de721c41c38f7fe0adc88241fc9dc8f10da2cd52d2996f"), looks := false }, kinds := [], alts := [], laidByText := true, laidKinds := [.data, .data, .data, .data, .data, .data, .data, .data, .data, .data], laidTests := true, laidLooks := .later }
def EdCompleteCardSaid : Prop := Claim7.holds Tryd.pinned (.plain (OpenSpec.ofChange edCompleteSpec)) edCompleteCard

/-- THE SECOND FORM's CARD OF 'signetlaw13.EdSpares'. -/
def edSparesUptoCard : Claim7 := { stood := { row := edSparesUptoRow, standIns := [], harness := (true, "916a877c66c4ed06c6de721c41c38f7fe0adc88241fc9dc8f10da2cd52d2996f"), looks := false }, kinds := [], alts := [], laidByText := true, laidKinds := [.data, .data, .data, .data, .data, .data, .data, .data, .data, .data], laidTests := true, laidLooks := .later }
def EdSparesUptoCardSaid : Prop := Claim7.holds Tryd.pinned (.plain (OpenSpec.upto edSparesSpec)) edSparesUptoCard

/-- THE SECOND FORM's CARD OF 'signetlaw13.EdJust'. -/
def edJustUptoCard : Claim7 := { stood := { row := edJustUptoRow, standIns := [], harness := (true, "916a877c66c4ed06c6de721c41c38f7fe0adc88241fc9dc8f10da2cd52d2996f"), looks := false }, kinds := [], alts := [], laidByText := true, laidKinds := [.data, .data, .data, .data, .data, .data, .data, .data, .data, .data], laidTests := true, laidLooks := .later }
def EdJustUptoCardSaid : Prop := Claim7.holds Tryd.pinned (.plain (OpenSpec.upto edJustSpec)) edJustUptoCard

/-- THE SECOND FORM's CARD OF 'signetlaw13.EdSums'. -/
def edSumsUptoCard : Claim7 := { stood := { row := edSumsUptoRow, standIns := [], harness := (true, "916a877c66c4ed06c6de721c41c38f7fe0adc88241fc9dc8f10da2cd52d2996f"), looks := false }, kinds := [], alts := [], laidByText := true, laidKinds := [.data, .data], laidTests := true, laidLooks := .later }
def EdSumsUptoCardSaid : Prop := Claim7.holds Tryd.pinned (.plain (OpenSpec.upto edSumsSpec)) edSumsUptoCard

/-- THE SECOND FORM's CARD OF 'signetlaw13.EdBytes'. -/
def edBytesUptoCard : Claim7 := { stood := { row := edBytesUptoRow, standIns := [], harness := (true, "916a877c66c4ed06c6de721c41c38f7fe0adc88241fc9dc8f10da2cd52d2996f"), looks := false }, kinds := [], alts := [], laidByText := true, laidKinds := [.data, .data, .data, .data, .data], laidTests := true, laidLooks := .later }
def EdBytesUptoCardSaid : Prop := Claim7.holds Tryd.pinned (.plain (OpenSpec.upto edBytesSpec)) edBytesUptoCard

/-- THE SECOND FORM's CARD OF 'signetlaw13.EdGroup'. -/
def edGroupUptoCard : Claim7 := { stood := { row := edGroupUptoRow, standIns := [], harness := (true, "916a877c66c4ed06c6de721c41c38f7fe0adc88241fc9dc8f10da2cd52d2996f"), looks := false }, kinds := [], alts := [], laidByText := true, laidKinds := [.data, .data, .data, .data, .data, .data, .data, .data, .data, .data], laidTests := true, laidLooks := .later }
def EdGroupUptoCardSaid : Prop := Claim7.holds Tryd.pinned (.plain (OpenSpec.upto edGroupSpec)) edGroupUptoCard

/-- THE SECOND FORM's CARD OF 'signetlaw13.EdBack'. -/
def edBackUptoCard : Claim7 := { stood := { row := edBackUptoRow, standIns := [], harness := (true, "916a877c66c4ed06c6de721c41c38f7fe0adc88241fc9dc8f10da2cd52d2996f"), looks := false }, kinds := [], alts := [], laidByText := true, laidKinds := [.data, .data, .data, .data, .data, .data, .data, .data, .data, .data], laidTests := true, laidLooks := .later }
def EdBackUptoCardSaid : Prop := Claim7.holds Tryd.pinned (.plain (OpenSpec.upto edBackSpec)) edBackUptoCard

/-- THE SECOND FORM's CARD OF 'signetlaw13.EdOne'. -/
def edOneUptoCard : Claim7 := { stood := { row := edOneUptoRow, standIns := [], harness := (true, "916a877c66c4ed06c6de721c41c38f7fe0adc88241fc9dc8f10da2cd52d2996f"), looks := false }, kinds := [], alts := [], laidByText := true, laidKinds := [.data, .data, .data, .data, .data, .data, .data, .data, .data, .data], laidTests := true, laidLooks := .later }
def EdOneUptoCardSaid : Prop := Claim7.holds Tryd.pinned (.plain (OpenSpec.upto edOneSpec)) edOneUptoCard

/-- THE SECOND FORM's CARD OF 'signetlaw13.EdMuls'. -/
def edMulsUptoCard : Claim7 := { stood := { row := edMulsUptoRow, standIns := [], harness := (true, "916a877c66c4ed06c6de721c41c38f7fe0adc88241fc9dc8f10da2cd52d2996f"), looks := false }, kinds := [], alts := [], laidByText := true, laidKinds := [.data, .data, .data, .data, .data, .data, .data, .data, .data, .data], laidTests := true, laidLooks := .later }
def EdMulsUptoCardSaid : Prop := Claim7.holds Tryd.pinned (.plain (OpenSpec.upto edMulsSpec)) edMulsUptoCard

/-- THE SECOND FORM's CARD OF 'signetlaw13.EdComplete'. -/
def edCompleteUptoCard : Claim7 := { stood := { row := edCompleteUptoRow, standIns := [], harness := (true, "916a877c66c4ed06c6de721c41c38f7fe0adc88241fc9dc8f10da2cd52d2996f"), looks := false }, kinds := [], alts := [], laidByText := true, laidKinds := [.data, .data, .data, .data, .data, .data, .data, .data, .data, .data], laidTests := true, laidLooks := .later }
def EdCompleteUptoCardSaid : Prop := Claim7.holds Tryd.pinned (.plain (OpenSpec.upto edCompleteSpec)) edCompleteUptoCard
end Rows
end Go.Proofs.YtlolkighnnedfaaDoor
