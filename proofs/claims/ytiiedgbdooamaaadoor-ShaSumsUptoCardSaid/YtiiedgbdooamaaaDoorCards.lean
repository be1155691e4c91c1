/-
  DERIVED. GIVEN WITH THE SEED: THE CARDS: each row of YtiiedgbdooamaaaDoorRows.lean that lists a variable, with what it lists TIED to the program's text (the seventh form; the later family's looks); each row that meets fmt, with fmt's text TOLD by the authors' own Lean function (tested against real Go, not proved from fmt's source: count such statements apart). THE CARD IS WHAT COUNTS. Prove the row's statement (the work); the ties are given (YtiiedgbdooamaaaDoorTie.lean); close each card by the builder's one call (the guide's Derived/Test/ToyasCard.lean, 'card_holds'). Laid BY PROGRAM, IN A SANDBOX (cutbox-door.mjs). By AI agents, Wed Nov 11 2026. No macro, syntax, notation, axiom, sorry.
-/
import Derived.Test.YtiiedgbdooamaaaDoorRows
import GoSem.ClaimSeven
namespace Go.Proofs.YtiiedgbdooamaaaDoor
namespace Rows

/-- THE TIED CARD OF 'signetlaw4.ShaPlays'. -/
def shaPlaysCard : Claim7 := { stood := { row := shaPlaysRow, standIns := [], harness := (true, "aecc7814659d9f52897f5784d32e625f185696fb3338849dec49239c6f4c9588"), looks := false }, kinds := [], alts := [], laidByText := true, laidKinds := [.data, .data, .data, .data, .data, .data, .data, .data, .data, .data], laidTests := true, laidLooks := .later }
def ShaPlaysCardSaid : Prop := Claim7.holds Tryd.pinned (.plain (OpenSpec.ofChange shaPlaysSpec)) shaPlaysCard

/-- THE TIED CARD OF 'signetlaw4.ShaSums'. -/
def shaSumsCard : Claim7 := { stood := { row := shaSumsRow, standIns := [], harness := (true, "aecc7814659d9f52897f5784d32e625f185696fb3338849dec49239c6f4c9588"), looks := false }, kinds := [], alts := [], laidByText := true, laidKinds := [.data, .data, .data, .data, .data, .data, .data, .data, .data, .data], laidTests := true, laidLooks := .later }
def ShaSumsCardSaid : Prop := Claim7.holds Tryd.pinned (.plain (OpenSpec.ofChange shaSumsSpec)) shaSumsCard

/-- THE TIED CARD OF 'signetlaw4.ShaFills'. -/
def shaFillsCard : Claim7 := { stood := { row := shaFillsRow, standIns := [], harness := (true, "aecc7814659d9f52897f5784d32e625f185696fb3338849dec49239c6f4c9588"), looks := false }, kinds := [], alts := [], laidByText := true, laidKinds := [.data, .data, .data, .data, .data, .data, .data, .data, .data, .data], laidTests := true, laidLooks := .later }
def ShaFillsCardSaid : Prop := Claim7.holds Tryd.pinned (.plain (OpenSpec.ofChange shaFillsSpec)) shaFillsCard

/-- THE TIED CARD OF 'signetlaw4.ShaSpares'. -/
def shaSparesCard : Claim7 := { stood := { row := shaSparesRow, standIns := [], harness := (true, "aecc7814659d9f52897f5784d32e625f185696fb3338849dec49239c6f4c9588"), looks := false }, kinds := [], alts := [], laidByText := true, laidKinds := [.data, .data, .data, .data, .data], laidTests := true, laidLooks := .later }
def ShaSparesCardSaid : Prop := Claim7.holds Tryd.pinned (.plain (OpenSpec.ofChange shaSparesSpec)) shaSparesCard

/-- THE TIED CARD OF 'signetlaw4.ShaPieces'. -/
def shaPiecesCard : Claim7 := { stood := { row := shaPiecesRow, standIns := [], harness := (true, "aecc7814659d9f52897f5784d32e625f185696fb3338849dec49239c6f4c9588"), looks := false }, kinds := [], alts := [], laidByText := true, laidKinds := [.data, .data, .data, .data, .data], laidTests := true, laidLooks := .later }
def ShaPiecesCardSaid : Prop := Claim7.holds Tryd.pinned (.plain (OpenSpec.ofChange shaPiecesSpec)) shaPiecesCard

/-- THE TIED CARD OF 'signetlaw5.HmacSums'. -/
def hmacSumsCard : Claim7 := { stood := { row := hmacSumsRow, standIns := [], harness := (true, "aecc7814659d9f52897f5784d32e625f185696fb3338849dec49239c6f4c9588"), looks := false }, kinds := [], alts := [], laidByText := true, laidKinds := [.data, .data, .data, .data, .data, .data, .data, .data, .data, .data], laidTests := true, laidLooks := .later }
def HmacSumsCardSaid : Prop := Claim7.holds Tryd.pinned (.plain (OpenSpec.ofChange hmacSumsSpec)) hmacSumsCard

/-- THE TIED CARD OF 'signetlaw5.HmacChecks'. -/
def hmacChecksCard : Claim7 := { stood := { row := hmacChecksRow, standIns := [], harness := (true, "aecc7814659d9f52897f5784d32e625f185696fb3338849dec49239c6f4c9588"), looks := false }, kinds := [], alts := [], laidByText := true, laidKinds := [.data, .data, .data, .data, .data, .data, .data, .data, .data, .data], laidTests := true, laidLooks := .later }
def HmacChecksCardSaid : Prop := Claim7.holds Tryd.pinned (.plain (OpenSpec.ofChange hmacChecksSpec)) hmacChecksCard

/-- THE TIED CARD OF 'signetlaw5.HmacIs'. -/
def hmacIsCard : Claim7 := { stood := { row := hmacIsRow, standIns := [], harness := (true, "aecc7814659d9f52897f5784d32e625f185696fb3338849dec49239c6f4c9588"), looks := false }, kinds := [], alts := [], laidByText := true, laidKinds := [.data, .data, .data, .data, .data], laidTests := true, laidLooks := .later }
def HmacIsCardSaid : Prop := Claim7.holds Tryd.pinned (.plain (OpenSpec.ofChange hmacIsSpec)) hmacIsCard

/-- THE TIED CARD OF 'signetlaw5.HmacOneKey'. -/
def hmacOneKeyCard : Claim7 := { stood := { row := hmacOneKeyRow, standIns := [], harness := (true, "aecc7814659d9f52897f5784d32e625f185696fb3338849dec49239c6f4c9588"), looks := false }, kinds := [], alts := [], laidByText := true, laidKinds := [.data, .data, .data, .data, .data], laidTests := true, laidLooks := .later }
def HmacOneKeyCardSaid : Prop := Claim7.holds Tryd.pinned (.plain (OpenSpec.ofChange hmacOneKeySpec)) hmacOneKeyCard

/-- THE TIED CARD OF 'signetlaw5.HmacTags'. -/
def hmacTagsCard : Claim7 := { stood := { row := hmacTagsRow, standIns := [], harness := (true, "aecc7814659d9f52897f5784d32e625f185696fb3338849dec49239c6f4c9588"), looks := false }, kinds := [], alts := [], laidByText := true, laidKinds := [.data, .data, .data, .data, .data], laidTests := true, laidLooks := .later }
def HmacTagsCardSaid : Prop := Claim7.holds Tryd.pinned (.plain (OpenSpec.ofChange hmacTagsSpec)) hmacTagsCard

/-- THE TIED CARD OF 'signetlaw36.LogRoots'. -/
def logRootsCard : Claim7 := { stood := { row := logRootsRow, standIns := [], harness := (true, "aecc7814659d9f52897f5784d32e625f185696fb3338849dec49239c6f4c9588"), looks := false }, kinds := [], alts := [], laidByText := true, laidKinds := [.data, .data, .data, .data, .data, .data, .data, .data, .data, .data], laidTests := true, laidLooks := .later }
def LogRootsCardSaid : Prop := Claim7.holds Tryd.pinned (.plain (OpenSpec.ofChange logRootsSpec)) logRootsCard

/-- THE TIED CARD OF 'signetlaw36.LogChecks'. -/
def logChecksCard : Claim7 := { stood := { row := logChecksRow, standIns := [], harness := (true, "aecc7814659d9f52897f5784d32e625f185696fb3338849dec49239c6f4c9588"), looks := false }, kinds := [], alts := [], laidByText := true, laidKinds := [.data, .data, .data, .data, .data, .data, .data, .data, .data, .data], laidTests := true, laidLooks := .later }
def LogChecksCardSaid : Prop := Claim7.holds Tryd.pinned (.plain (OpenSpec.ofChange logChecksSpec)) logChecksCard

/-- THE TIED CARD OF 'signetlaw36.LogBinds'. -/
def logBindsCard : Claim7 := { stood := { row := logBindsRow, standIns := [], harness := (true, "aecc7814659d9f52897f5784d32e625f185696fb3338849dec49239c6f4c9588"), looks := false }, kinds := [], alts := [], laidByText := true, laidKinds := [.data, .data, .data, .data, .data, .data, .data, .data, .data, .data], laidTests := true, laidLooks := .later }
def LogBindsCardSaid : Prop := Claim7.holds Tryd.pinned (.plain (OpenSpec.ofChange logBindsSpec)) logBindsCard

/-- THE TIED CARD OF 'signetlaw36.LogShows'. -/
def logShowsCard : Claim7 := { stood := { row := logShowsRow, standIns := [], harness := (true, "aecc7814659d9f52897f5784d32e625f185696fb3338849dec49239c6f4c9588"), looks := false }, kinds := [], alts := [], laidByText := true, laidKinds := [.data, .data, .data, .data, .data, .data, .data, .data, .data, .data], laidTests := true, laidLooks := .later }
def LogShowsCardSaid : Prop := Claim7.holds Tryd.pinned (.plain (OpenSpec.ofChange logShowsSpec)) logShowsCard

/-- THE TIED CARD OF 'signetlaw36.LogPlays'. -/
def logPlaysCard : Claim7 := { stood := { row := logPlaysRow, standIns := [], harness := (true, "aecc7814659d9f52897f5784d32e625f185696fb3338849dec49239c6f4c9588"), looks := false }, kinds := [], alts := [], laidByText := true, laidKinds := [.data, .data, .data, .data, .data, .data, .data, .data, .data, .data], laidTests := true, laidLooks := .later }
def LogPlaysCardSaid : Prop := Claim7.holds Tryd.pinned (.plain (OpenSpec.ofChange logPlaysSpec)) logPlaysCard

/-- THE TIED CARD OF 'signetlaw36.LogProves'. -/
def logProvesCard : Claim7 := { stood := { row := logProvesRow, standIns := [], harness := (true, "aecc7814659d9f52897f5784d32e625f185696fb3338849dec49239c6f4c9588"), looks := false }, kinds := [], alts := [], laidByText := true, laidKinds := [.data, .data, .data, .data, .data, .data, .data, .data, .data, .data], laidTests := true, laidLooks := .later }
def LogProvesCardSaid : Prop := Claim7.holds Tryd.pinned (.plain (OpenSpec.ofChange logProvesSpec)) logProvesCard

/-- THE TIED CARD OF 'signetlaw36.LogGrows'. -/
def logGrowsCard : Claim7 := { stood := { row := logGrowsRow, standIns := [], harness := (true, "aecc7814659d9f52897f5784d32e625f185696fb3338849dec49239c6f4c9588"), looks := false }, kinds := [], alts := [], laidByText := true, laidKinds := [.data, .data, .data, .data, .data, .data, .data, .data, .data, .data], laidTests := true, laidLooks := .later }
def LogGrowsCardSaid : Prop := Claim7.holds Tryd.pinned (.plain (OpenSpec.ofChange logGrowsSpec)) logGrowsCard

/-- THE TIED CARD OF 'signetlaw36.LogKeeps'. -/
def logKeepsCard : Claim7 := { stood := { row := logKeepsRow, standIns := [], harness := (true, "aecc7814659d9f52897f5784d32e625f185696fb3338849dec49239c6f4c9588"), looks := false }, kinds := [], alts := [], laidByText := true, laidKinds := [.data, .data, .data, .data, .data, .data, .data, .data, .data, .data], laidTests := true, laidLooks := .later }
def LogKeepsCardSaid : Prop := Claim7.holds Tryd.pinned (.plain (OpenSpec.ofChange logKeepsSpec)) logKeepsCard

/-- THE SECOND FORM's CARD OF 'signetlaw4.ShaPlays'. -/
def shaPlaysUptoCard : Claim7 := { stood := { row := shaPlaysUptoRow, standIns := [], harness := (true, "aecc7814659d9f52897f5784d32e625f185696fb3338849dec49239c6f4c9588"), looks := false }, kinds := [], alts := [], laidByText := true, laidKinds := [.data, .data, .data, .data, .data, .data, .data, .data, .data, .data], laidTests := true, laidLooks := .later }
def ShaPlaysUptoCardSaid : Prop := Claim7.holds Tryd.pinned (.plain (OpenSpec.upto shaPlaysSpec)) shaPlaysUptoCard

/-- THE SECOND FORM's CARD OF 'signetlaw4.ShaSums'. -/
def shaSumsUptoCard : Claim7 := { stood := { row := shaSumsUptoRow, standIns := [], harness := (true, "aecc7814659d9f52897f5784d32e625f185696fb3338849dec49239c6f4c9588"), looks := false }, kinds := [], alts := [], laidByText := true, laidKinds := [.data, .data, .data, .data, .data, .data, .data, .data, .data, .data], laidTests := true, laidLooks := .later }
def ShaSumsUptoCardSaid : Prop := Claim7.holds Tryd.pinned (.plain (OpenSpec.upto shaSumsSpec)) shaSumsUptoCard

/-- THE SECOND FORM's CARD OF 'signetlaw4.ShaFills'. -/
def shaFillsUptoCard : Claim7 := { stood := { row := shaFillsUptoRow, standIns := [], harness := (true, "aecc7814659d9f52897f5784d32e625f185696fb3338849dec49239c6f4c9588"), looks := false }, kinds := [], alts := [], laidByText := true, laidKinds := [.data, .data, .data, .data, .data, .data, .data, .data, .data, .data], laidTests := true, laidLooks := .later }
def ShaFillsUptoCardSaid : Prop := Claim7.holds Tryd.pinned (.plain (OpenSpec.upto shaFillsSpec)) shaFillsUptoCard

/-- THE SECOND FORM's CARD OF 'signetlaw4.ShaSpares'. -/
def shaSparesUptoCard : Claim7 := { stood := { row := shaSparesUptoRow, standIns := [], harness := (true, "aecc7814659d9f52897f5784d32e625f185696fb3338849dec49239c6f4c9588"), looks := false }, kinds := [], alts := [], laidByText := true, laidKinds := [.data, .data, .data, .data, .data], laidTests := true, laidLooks := .later }
def ShaSparesUptoCardSaid : Prop := Claim7.holds Tryd.pinned (.plain (OpenSpec.upto shaSparesSpec)) shaSparesUptoCard

/-- THE SECOND FORM's CARD OF 'signetlaw4.ShaPieces'. -/
def shaPiecesUptoCard : Claim7 := { stood := { row := shaPiecesUptoRow, standIns := [], harness := (true, "aecc7814659d9f52897f5784d32e625f185696fb3338849dec49239c6f4c9588"), looks := false }, kinds := [], alts := [], laidByText := true, laidKinds := [.data, .data, .data, .data, .data], laidTests := true, laidLooks := .later }
def ShaPiecesUptoCardSaid : Prop := Claim7.holds Tryd.pinned (.plain (OpenSpec.upto shaPiecesSpec)) shaPiecesUptoCard

/-- THE SECOND FORM's CARD OF 'signetlaw5.HmacSums'. -/
def hmacSumsUptoCard : Claim7 := { stood := { row := hmacSumsUptoRow, standIns := [], harness := (true, "aecc7814659d9f52897f5784d32e625f185696fb3338849dec49239c6f4c9588"), looks := false }, kinds := [], alts := [], laidByText := true, laidKinds := [.data, .data, .data, .data, .data, .data, .data, .data, .data, .data], laidTests := true, laidLooks := .later }
def HmacSumsUptoCardSaid : Prop := Claim7.holds Tryd.pinned (.plain (OpenSpec.upto hmacSumsSpec)) hmacSumsUptoCard

/-- THE SECOND FORM's CARD OF 'signetlaw5.HmacChecks'. -/
def hmacChecksUptoCard : Claim7 := { stood := { row := hmacChecksUptoRow, standIns := [], harness := (true, "aecc7814659d9f52897f5784d32e625f185696fb3338849dec49239c6f4c9588"), looks := false }, kinds := [], alts := [], laidByText := true, laidKinds := [.data, .data, .data, .data, .data, .data, .data, .data, .data, .data], laidTests := true, laidLooks := .later }
def HmacChecksUptoCardSaid : Prop := Claim7.holds Tryd.pinned (.plain (OpenSpec.upto hmacChecksSpec)) hmacChecksUptoCard

/-- THE SECOND FORM's CARD OF 'signetlaw5.HmacIs'. -/
def hmacIsUptoCard : Claim7 := { stood := { row := hmacIsUptoRow, standIns := [], harness := (true, "aecc7814659d9f52897f5784d32e625f185696fb3338849dec49239c6f4c9588"), looks := false }, kinds := [], alts := [], laidByText := true, laidKinds := [.data, .data, .data, .data, .data], laidTests := true, laidLooks := .later }
def HmacIsUptoCardSaid : Prop := Claim7.holds Tryd.pinned (.plain (OpenSpec.upto hmacIsSpec)) hmacIsUptoCard

/-- THE SECOND FORM's CARD OF 'signetlaw5.HmacOneKey'. -/
def hmacOneKeyUptoCard : Claim7 := { stood := { row := hmacOneKeyUptoRow, standIns := [], harness := (true, "aecc7814659d9f52897f5784d32e625f185696fb3338849dec49239c6f4c9588"), looks := false }, kinds := [], alts := [], laidByText := true, laidKinds := [.data, .data, .data, .data, .data], laidTests := true, laidLooks := .later }
def HmacOneKeyUptoCardSaid : Prop := Claim7.holds Tryd.pinned (.plain (OpenSpec.upto hmacOneKeySpec)) hmacOneKeyUptoCard

/-- THE SECOND FORM's CARD OF 'signetlaw5.HmacTags'. -/
def hmacTagsUptoCard : Claim7 := { stood := { row := hmacTagsUptoRow, standIns := [], harness := (true, "aecc7814659d9f52897f5784d32e625f185696fb3338849dec49239c6f4c9588"), looks := false }, kinds := [], alts := [], laidByText := true, laidKinds := [.data, .data, .data, .data, .data], laidTests := true, laidLooks := .later }
def HmacTagsUptoCardSaid : Prop := Claim7.holds Tryd.pinned (.plain (OpenSpec.upto hmacTagsSpec)) hmacTagsUptoCard

/-- THE SECOND FORM's CARD OF 'signetlaw36.LogRoots'. -/
def logRootsUptoCard : Claim7 := { stood := { row := logRootsUptoRow, standIns := [], harness := (true, "aecc7814659d9f52897f5784d32e625f185696fb3338849dec49239c6f4c9588"), looks := false }, kinds := [], alts := [], laidByText := true, laidKinds := [.data, .data, .data, .data, .data, .data, .data, .data, .data, .data], laidTests := true, laidLooks := .later }
def LogRootsUptoCardSaid : Prop := Claim7.holds Tryd.pinned (.plain (OpenSpec.upto logRootsSpec)) logRootsUptoCard

/-- THE SECOND FORM's CARD OF 'signetlaw36.LogChecks'. -/
def logChecksUptoCard : Claim7 := { stood := { row := logChecksUptoRow, standIns := [], harness := (true, "aecc7814659d9f52897f5784d32e625f185696fb3338849dec49239c6f4c9588"), looks := false }, kinds := [], alts := [], laidByText := true, laidKinds := [.data, .data, .data, .data, .data, .data, .data, .data, .data, .data], laidTests := true, laidLooks := .later }
def LogChecksUptoCardSaid : Prop := Claim7.holds Tryd.pinned (.plain (OpenSpec.upto logChecksSpec)) logChecksUptoCard

/-- THE SECOND FORM's CARD OF 'signetlaw36.LogBinds'. -/
def logBindsUptoCard : Claim7 := { stood := { row := logBindsUptoRow, standIns := [], harness := (true, "aecc7814659d9f52897f5784d32e625f185696fb3338849dec49239c6f4c9588"), looks := false }, kinds := [], alts := [], laidByText := true, laidKinds := [.data, .data, .data, .data, .data, .data, .data, .data, .data, .data], laidTests := true, laidLooks := .later }
def LogBindsUptoCardSaid : Prop := Claim7.holds Tryd.pinned (.plain (OpenSpec.upto logBindsSpec)) logBindsUptoCard

/-- THE SECOND FORM's CARD OF 'signetlaw36.LogShows'. -/
def logShowsUptoCard : Claim7 := { stood := { row := logShowsUptoRow, standIns := [], harness := (true, "aecc7814659d9f52897f5784d32e625f185696fb3338849dec49239c6f4c9588"), looks := false }, kinds := [], alts := [], laidByText := true, laidKinds := [.data, .data, .data, .data, .data, .data, .data, .data, .data, .data], laidTests := true, laidLooks := .later }
def LogShowsUptoCardSaid : Prop := Claim7.holds Tryd.pinned (.plain (OpenSpec.upto logShowsSpec)) logShowsUptoCard

/-- THE SECOND FORM's CARD OF 'signetlaw36.LogPlays'. -/
def logPlaysUptoCard : Claim7 := { stood := { row := logPlaysUptoRow, standIns := [], harness := (true, "aecc7814659d9f52897f5784d32e625f185696fb3338849dec49239c6f4c9588"), looks := false }, kinds := [], alts := [], laidByText := true, laidKinds := [.data, .data, .data, .data, .data, .data, .data, .data, .data, .data], laidTests := true, laidLooks := .later }
def LogPlaysUptoCardSaid : Prop := Claim7.holds Tryd.pinned (.plain (OpenSpec.upto logPlaysSpec)) logPlaysUptoCard

/-- THE SECOND FORM's CARD OF 'signetlaw36.LogProves'. -/
def logProvesUptoCard : Claim7 := { stood := { row := logProvesUptoRow, standIns := [], harness := (true, "aecc7814659d9f52897f5784d32e625f185696fb3338849dec49239c6f4c9588"), looks := false }, kinds := [], alts := [], laidByText := true, laidKinds := [.data, .data, .data, .data, .data, .data, .data, .data, .data, .data], laidTests := true, laidLooks := .later }
def LogProvesUptoCardSaid : Prop := Claim7.holds Tryd.pinned (.plain (OpenSpec.upto logProvesSpec)) logProvesUptoCard

/-- THE SECOND FORM's CARD OF 'signetlaw36.LogGrows'. -/
def logGrowsUptoCard : Claim7 := { stood := { row := logGrowsUptoRow, standIns := [], harness := (true, "aecc7814659d9f52897f5784d32e625f185696fb3338849dec49239c6f4c9588"), looks := false }, kinds := [], alts := [], laidByText := true, laidKinds := [.data, .data, .data, .data, .data, .data, .data, .data, .data, .data], laidTests := true, laidLooks := .later }
def LogGrowsUptoCardSaid : Prop := Claim7.holds Tryd.pinned (.plain (OpenSpec.upto logGrowsSpec)) logGrowsUptoCard

/-- THE SECOND FORM's CARD OF 'signetlaw36.LogKeeps'. -/
def logKeepsUptoCard : Claim7 := { stood := { row := logKeepsUptoRow, standIns := [], harness := (true, "aecc7814659d9f52897f5784d32e625f185696fb3338849dec49239c6f4c9588"), looks := false }, kinds := [], alts := [], laidByText := true, laidKinds := [.data, .data, .data, .data, .data, .data, .data, .data, .data, .data], laidTests := true, laidLooks := .later }
def LogKeepsUptoCardSaid : Prop := Claim7.holds Tryd.pinned (.plain (OpenSpec.upto logKeepsSpec)) logKeepsUptoCard
end Rows
end Go.Proofs.YtiiedgbdooamaaaDoor
