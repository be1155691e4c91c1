/-
  DERIVED. GIVEN WITH THE SEED: THE CARDS: each row of YtbmdifeanocahaaDoorRows.lean that lists a variable, with what it lists TIED to the program's text (the seventh form; the later family's looks); each row that meets fmt, with fmt's text TOLD by the authors' own Lean function (tested against real Go, not proved from fmt's source: count such statements apart). THE CARD IS WHAT COUNTS. Prove the row's statement (the work); the ties are given (YtbmdifeanocahaaDoorTie.lean); close each card by the builder's one call (the guide's Derived/Test/ToyasCard.lean, 'card_holds'). Laid BY PROGRAM, IN A SANDBOX (cutbox-door.mjs). By AI agents, Wed Nov 11 2026. No macro, syntax, notation, axiom, sorry.
-/
import Derived.Test.YtbmdifeanocahaaDoorRows
import GoSem.ClaimSeven
namespace Go.Proofs.YtbmdifeanocahaaDoor
namespace Rows

/-- THE TIED CARD OF 'signetlaw9.RsaShape'. -/
def rsaShapeCard : Claim7 := { stood := { row := rsaShapeRow, standIns := [], harness := (true, "fb44ca018847f8d24077e1ab1f3817f7a925b43ab66f6353c2e16b825dcfe157"), looks := false }, kinds := [], alts := [], laidByText := true, laidKinds := [.data, .data, .data, .data, .data, .data], laidTests := true, laidLooks := .later }
def RsaShapeCardSaid : Prop := Claim7.holds Tryd.pinned (.plain (OpenSpec.ofChange rsaShapeSpec)) rsaShapeCard

/-- THE TIED CARD OF 'signetlaw9.RsaVerifies'. -/
def rsaVerifiesCard : Claim7 := { stood := { row := rsaVerifiesRow, standIns := [], harness := (true, "fb44ca018847f8d24077e1ab1f3817f7a925b43ab66f6353c2e16b825dcfe157"), looks := false }, kinds := [], alts := [], laidByText := true, laidKinds := [.data, .data, .data, .data, .data, .data, .data, .data, .data, .data, .data], laidTests := true, laidLooks := .later }
def RsaVerifiesCardSaid : Prop := Claim7.holds Tryd.pinned (.plain (OpenSpec.ofChange rsaVerifiesSpec)) rsaVerifiesCard

/-- THE TIED CARD OF 'signetlaw9.RsaEquation'. -/
def rsaEquationCard : Claim7 := { stood := { row := rsaEquationRow, standIns := [], harness := (true, "fb44ca018847f8d24077e1ab1f3817f7a925b43ab66f6353c2e16b825dcfe157"), looks := false }, kinds := [], alts := [], laidByText := true, laidKinds := [.data, .data, .data, .data, .data, .data], laidTests := true, laidLooks := .later }
def RsaEquationCardSaid : Prop := Claim7.holds Tryd.pinned (.plain (OpenSpec.ofChange rsaEquationSpec)) rsaEquationCard

/-- THE TIED CARD OF 'signetlaw9.RsaOneSum'. -/
def rsaOneSumCard : Claim7 := { stood := { row := rsaOneSumRow, standIns := [], harness := (true, "fb44ca018847f8d24077e1ab1f3817f7a925b43ab66f6353c2e16b825dcfe157"), looks := false }, kinds := [], alts := [], laidByText := true, laidKinds := [.data, .data, .data, .data, .data, .data], laidTests := true, laidLooks := .later }
def RsaOneSumCardSaid : Prop := Claim7.holds Tryd.pinned (.plain (OpenSpec.ofChange rsaOneSumSpec)) rsaOneSumCard

/-- THE TIED CARD OF 'signetlaw9.RsaComplete'. -/
def rsaCompleteCard : Claim7 := { stood := { row := rsaCompleteRow, standIns := [], harness := (true, "fb44ca018847f8d24077e1ab1f3817f7a925b43ab66f6353c2e16b825dcfe157"), looks := false }, kinds := [], alts := [], laidByText := true, laidKinds := [.data, .data, .data, .data, .data, .data], laidTests := true, laidLooks := .later }
def RsaCompleteCardSaid : Prop := Claim7.holds Tryd.pinned (.plain (OpenSpec.ofChange rsaCompleteSpec)) rsaCompleteCard

/-- THE TIED CARD OF 'signetlaw10.PssVerifies'. -/
def pssVerifiesCard : Claim7 := { stood := { row := pssVerifiesRow, standIns := [], harness := (true, "fb44ca018847f8d24077e1ab1f3817f7a925b43ab66f6353c2e16b825dcfe157"), looks := false }, kinds := [], alts := [], laidByText := true, laidKinds := [.data, .data, .data, .data, .data, .data, .data, .data, .data, .data], laidTests := true, laidLooks := .later }
def PssVerifiesCardSaid : Prop := Claim7.holds Tryd.pinned (.plain (OpenSpec.ofChange pssVerifiesSpec)) pssVerifiesCard

/-- THE TIED CARD OF 'signetlaw10.PssJust'. -/
def pssJustCard : Claim7 := { stood := { row := pssJustRow, standIns := [], harness := (true, "fb44ca018847f8d24077e1ab1f3817f7a925b43ab66f6353c2e16b825dcfe157"), looks := false }, kinds := [], alts := [], laidByText := true, laidKinds := [.data, .data, .data, .data, .data], laidTests := true, laidLooks := .later }
def PssJustCardSaid : Prop := Claim7.holds Tryd.pinned (.plain (OpenSpec.ofChange pssJustSpec)) pssJustCard

/-- THE TIED CARD OF 'signetlaw10.PssComplete'. -/
def pssCompleteCard : Claim7 := { stood := { row := pssCompleteRow, standIns := [], harness := (true, "fb44ca018847f8d24077e1ab1f3817f7a925b43ab66f6353c2e16b825dcfe157"), looks := false }, kinds := [], alts := [], laidByText := true, laidKinds := [.data, .data, .data, .data, .data], laidTests := true, laidLooks := .later }
def PssCompleteCardSaid : Prop := Claim7.holds Tryd.pinned (.plain (OpenSpec.ofChange pssCompleteSpec)) pssCompleteCard

/-- THE SECOND FORM's CARD OF 'signetlaw9.RsaShape'. -/
def rsaShapeUptoCard : Claim7 := { stood := { row := rsaShapeUptoRow, standIns := [], harness := (true, "fb44ca018847f8d24077e1ab1f3817f7a925b43ab66f6353c2e16b825dcfe157"), looks := false }, kinds := [], alts := [], laidByText := true, laidKinds := [.data, .data, .data, .data, .data, .data], laidTests := true, laidLooks := .later }
def RsaShapeUptoCardSaid : Prop := Claim7.holds Tryd.pinned (.plain (OpenSpec.upto rsaShapeSpec)) rsaShapeUptoCard

/-- THE SECOND FORM's CARD OF 'signetlaw9.RsaVerifies'. -/
def rsaVerifiesUptoCard : Claim7 := { stood := { row := rsaVerifiesUptoRow, standIns := [], harness := (true, "fb44ca018847f8d24077e1ab1f3817f7a925b43ab66f6353c2e16b825dcfe157"), looks := false }, kinds := [], alts := [], laidByText := true, laidKinds := [.data, .data, .data, .data, .data, .data, .data, .data, .data, .data, .data], laidTests := true, laidLooks := .later }
def RsaVerifiesUptoCardSaid : Prop := Claim7.holds Tryd.pinned (.plain (OpenSpec.upto rsaVerifiesSpec)) rsaVerifiesUptoCard

/-- THE SECOND FORM's CARD OF 'signetlaw9.RsaEquation'. -/
def rsaEquationUptoCard : Claim7 := { stood := { row := rsaEquationUptoRow, standIns := [], harness := (true, "fb44ca018847f8d24077e1ab1f3817f7a925b43ab66f6353c2e16b825dcfe157"), looks := false }, kinds := [], alts := [], laidByText := true, laidKinds := [.data, .data, .data, .data, .data, .data], laidTests := true, laidLooks := .later }
def RsaEquationUptoCardSaid : Prop := Claim7.holds Tryd.pinned (.plain (OpenSpec.upto rsaEquationSpec)) rsaEquationUptoCard

/-- THE SECOND FORM's CARD OF 'signetlaw9.RsaOneSum'. -/
def rsaOneSumUptoCard : Claim7 := { stood := { row := rsaOneSumUptoRow, standIns := [], harness := (true, "fb44ca018847f8d24077e1ab1f3817f7a925b43ab66f6353c2e16b825dcfe157"), looks := false }, kinds := [], alts := [], laidByText := true, laidKinds := [.data, .data, .data, .data, .data, .data], laidTests := true, laidLooks := .later }
def RsaOneSumUptoCardSaid : Prop := Claim7.holds Tryd.pinned (.plain (OpenSpec.upto rsaOneSumSpec)) rsaOneSumUptoCard

/-- THE SECOND FORM's CARD OF 'signetlaw9.RsaComplete'. -/
def rsaCompleteUptoCard : Claim7 := { stood := { row := rsaCompleteUptoRow, standIns := [], harness := (true, "fb44ca018847f8d24077e1ab1f3817f7a925b43ab66f6353c2e16b825dcfe157"), looks := false }, kinds := [], alts := [], laidByText := true, laidKinds := [.data, .data, .data, .data, .data, .data], laidTests := true, laidLooks := .later }
def RsaCompleteUptoCardSaid : Prop := Claim7.holds Tryd.pinned (.plain (OpenSpec.upto rsaCompleteSpec)) rsaCompleteUptoCard

/-- THE SECOND FORM's CARD OF 'signetlaw10.PssVerifies'. -/
def pssVerifiesUptoCard : Claim7 := { stood := { row := pssVerifiesUptoRow, standIns := [], harness := (true, "fb44ca018847f8d24077e1ab1f3817f7a925b43ab66f6353c2e16b825dcfe157"), looks := false }, kinds := [], alts := [], laidByText := true, laidKinds := [.data, .data, .data, .data, .data, .data, .data, .data, .data, .data], laidTests := true, laidLooks := .later }
def PssVerifiesUptoCardSaid : Prop := Claim7.holds Tryd.pinned (.plain (OpenSpec.upto pssVerifiesSpec)) pssVerifiesUptoCard

/-- THE SECOND FORM's CARD OF 'signetlaw10.PssJust'. -/
def pssJustUptoCard : Claim7 := { stood := { row := pssJustUptoRow, standIns := [], harness := (true, "fb44ca018847f8d24077e1ab1f3817f7a925b43ab66f6353c2e16b825dcfe157"), looks := false }, kinds := [], alts := [], laidByText := true, laidKinds := [.data, .data, .data, .data, .data], laidTests := true, laidLooks := .later }
def PssJustUptoCardSaid : Prop := Claim7.holds Tryd.pinned (.plain (OpenSpec.upto pssJustSpec)) pssJustUptoCard

/-- THE SECOND FORM's CARD OF 'signetlaw10.PssComplete'. -/
def pssCompleteUptoCard : Claim7 := { stood := { row := pssCompleteUptoRow, standIns := [], harness := (true, "fb44ca018847f8d24077e1ab1f3817f7a925b43ab66f6353c2e16b825dcfe157"), looks := false }, kinds := [], alts := [], laidByText := true, laidKinds := [.data, .data, .data, .data, .data], laidTests := true, laidLooks := .later }
def PssCompleteUptoCardSaid : Prop := Claim7.holds Tryd.pinned (.plain (OpenSpec.upto pssCompleteSpec)) pssCompleteUptoCard
end Rows
end Go.Proofs.YtbmdifeanocahaaDoor
