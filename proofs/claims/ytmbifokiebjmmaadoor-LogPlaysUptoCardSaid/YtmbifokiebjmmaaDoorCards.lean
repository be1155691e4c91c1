/-
  DERIVED. GIVEN WITH THE SEED: THE CARDS: each row of YtmbifokiebjmmaaDoorRows.lean that lists a variable, with what it lists TIED to the program's text (the seventh form; the later family's looks); each row that meets fmt, with fmt's text TOLD by the authors' own Lean function (tested against real Go, not proved from fmt's source: count such statements apart). THE CARD IS WHAT COUNTS. Prove the row's statement (the work); the ties are given (YtmbifokiebjmmaaDoorTie.lean); close each card by the builder's one call (the guide's Derived/Test/ToyasCard.lean, 'card_holds'). Laid BY PROGRAM, IN A SANDBOX (cutbox-door.mjs). By AI agents, Wed Nov 11 2026. No macro, syntax, notation, axiom, sorry.
-/
import Derived.Test.YtmbifokiebjmmaaDoorRows
import GoSem.ClaimSeven
namespace Go.Proofs.YtmbifokiebjmmaaDoor
namespace Rows

/-- THE TIED CARD OF 'signetlaw36.LogRoots'. -/
def logRootsCard : Claim7 := { stood := { row := logRootsRow, standIns := [], harness := (true, "adb3e1418fdbd895e7861c214ab5c4a4ed107df7440cbd214280efccbfd22b6d"), looks := false }, kinds := [], alts := [], laidByText := true, laidKinds := [.data, .data, .data, .data, .data, .data, .data, .data, .data, .data], laidTests := true, laidLooks := .later }
def LogRootsCardSaid : Prop := Claim7.holds Tryd.pinned (.plain (OpenSpec.ofChange logRootsSpec)) logRootsCard

/-- THE TIED CARD OF 'signetlaw36.LogChecks'. -/
def logChecksCard : Claim7 := { stood := { row := logChecksRow, standIns := [], harness := (true, "adb3e1418fdbd895e7861c214ab5c4a4ed107df7440cbd214280efccbfd22b6d"), looks := false }, kinds := [], alts := [], laidByText := true, laidKinds := [.data, .data, .data, .data, .data, .data, .data, .data, .data, .data], laidTests := true, laidLooks := .later }
def LogChecksCardSaid : Prop := Claim7.holds Tryd.pinned (.plain (OpenSpec.ofChange logChecksSpec)) logChecksCard

/-- THE TIED CARD OF 'signetlaw36.LogBinds'. -/
def logBindsCard : Claim7 := { stood := { row := logBindsRow, standIns := [], harness := (true, "adb3e1418fdbd895e7861c214ab5c4a4ed107df7440cbd214280efccbfd22b6d"), looks := false }, kinds := [], alts := [], laidByText := true, laidKinds := [.data, .data, .data, .data, .data, .data, .data, .data, .data, .data], laidTests := true, laidLooks := .later }
def LogBindsCardSaid : Prop := Claim7.holds Tryd.pinned (.plain (OpenSpec.ofChange logBindsSpec)) logBindsCard

/-- THE TIED CARD OF 'signetlaw36.LogShows'. -/
def logShowsCard : Claim7 := { stood := { row := logShowsRow, standIns := [], harness := (true, "adb3e1418fdbd895e7861c214ab5c4a4ed107df7440cbd214280efccbfd22b6d"), looks := false }, kinds := [], alts := [], laidByText := true, laidKinds := [.data, .data, .data, .data, .data, .data, .data, .data, .data, .data], laidTests := true, laidLooks := .later }
def LogShowsCardSaid : Prop := Claim7.holds Tryd.pinned (.plain (OpenSpec.ofChange logShowsSpec)) logShowsCard

/-- THE TIED CARD OF 'signetlaw36.LogPlays'. -/
def logPlaysCard : Claim7 := { stood := { row := logPlaysRow, standIns := [], harness := (true, "adb3e1418fdbd895e7861c214ab5c4a4ed107df7440cbd214280efccbfd22b6d"), looks := false }, kinds := [], alts := [], laidByText := true, laidKinds := [.data, .data, .data, .data, .data, .data, .data, .data, .data, .data], laidTests := true, laidLooks := .later }
def LogPlaysCardSaid : Prop := Claim7.holds Tryd.pinned (.plain (OpenSpec.ofChange logPlaysSpec)) logPlaysCard

/-- THE TIED CARD OF 'signetlaw36.LogProves'. -/
def logProvesCard : Claim7 := { stood := { row := logProvesRow, standIns := [], harness := (true, "adb3e1418fdbd895e7861c214ab5c4a4ed107df7440cbd214280efccbfd22b6d"), looks := false }, kinds := [], alts := [], laidByText := true, laidKinds := [.data, .data, .data, .data, .data, .data, .data, .data, .data, .data], laidTests := true, laidLooks := .later }
def LogProvesCardSaid : Prop := Claim7.holds Tryd.pinned (.plain (OpenSpec.ofChange logProvesSpec)) logProvesCard

/-- THE TIED CARD OF 'signetlaw36.LogGrows'. -/
def logGrowsCard : Claim7 := { stood := { row := logGrowsRow, standIns := [], harness := (true, "adb3e1418fdbd895e7861c214ab5c4a4ed107df7440cbd214280efccbfd22b6d"), looks := false }, kinds := [], alts := [], laidByText := true, laidKinds := [.data, .data, .data, .data, .data, .data, .data, .data, .data, .data], laidTests := true, laidLooks := .later }
def LogGrowsCardSaid : Prop := Claim7.holds Tryd.pinned (.plain (OpenSpec.ofChange logGrowsSpec)) logGrowsCard

/-- THE TIED CARD OF 'signetlaw36.LogKeeps'. -/
def logKeepsCard : Claim7 := { stood := { row := logKeepsRow, standIns := [], harness := (true, "adb3e1418fdbd895e7861c214ab5c4a4ed107df7440cbd214280efccbfd22b6d"), looks := false }, kinds := [], alts := [], laidByText := true, laidKinds := [.data, .data, .data, .data, .data, .data, .data, .data, .data, .data], laidTests := true, laidLooks := .later }
def LogKeepsCardSaid : Prop := Claim7.holds Tryd.pinned (.plain (OpenSpec.ofChange logKeepsSpec)) logKeepsCard

/-- THE SECOND FORM's CARD OF 'signetlaw36.LogRoots'. -/
def logRootsUptoCard : Claim7 := { stood := { row := logRootsUptoRow, standIns := [], harness := (true, "adb3e1418fdbd895e7861c214ab5c4a4ed107df7440cbd214280efccbfd22b6d"), looks := false }, kinds := [], alts := [], laidByText := true, laidKinds := [.data, .data, .data, .data, .data, .data, .data, .data, .data, .data], laidTests := true, laidLooks := .later }
def LogRootsUptoCardSaid : Prop := Claim7.holds Tryd.pinned (.plain (OpenSpec.upto logRootsSpec)) logRootsUptoCard

/-- THE SECOND FORM's CARD OF 'signetlaw36.LogChecks'. -/
def logChecksUptoCard : Claim7 := { stood := { row := logChecksUptoRow, standIns := [], harness := (true, "adb3e1418fdbd895e7861c214ab5c4a4ed107df7440cbd214280efccbfd22b6d"), looks := false }, kinds := [], alts := [], laidByText := true, laidKinds := [.data, .data, .data, .data, .data, .data, .data, .data, .data, .data], laidTests := true, laidLooks := .later }
def LogChecksUptoCardSaid : Prop := Claim7.holds Tryd.pinned (.plain (OpenSpec.upto logChecksSpec)) logChecksUptoCard

/-- THE SECOND FORM's CARD OF 'signetlaw36.LogBinds'. -/
def logBindsUptoCard : Claim7 := { stood := { row := logBindsUptoRow, standIns := [], harness := (true, "adb3e1418fdbd895e7861c214ab5c4a4ed107df7440cbd214280efccbfd22b6d"), looks := false }, kinds := [], alts := [], laidByText := true, laidKinds := [.data, .data, .data, .data, .data, .data, .data, .data, .data, .data], laidTests := true, laidLooks := .later }
def LogBindsUptoCardSaid : Prop := Claim7.holds Tryd.pinned (.plain (OpenSpec.upto logBindsSpec)) logBindsUptoCard

/-- THE SECOND FORM's CARD OF 'signetlaw36.LogShows'. -/
def logShowsUptoCard : Claim7 := { stood := { row := logShowsUptoRow, standIns := [], harness := (true, "adb3e1418fdbd895e7861c214ab5c4a4ed107df7440cbd214280efccbfd22b6d"), looks := false }, kinds := [], alts := [], laidByText := true, laidKinds := [.data, .data, .data, .data, .data, .data, .data, .data, .data, .data], laidTests := true, laidLooks := .later }
def LogShowsUptoCardSaid : Prop := Claim7.holds Tryd.pinned (.plain (OpenSpec.upto logShowsSpec)) logShowsUptoCard

/-- THE SECOND FORM's CARD OF 'signetlaw36.LogPlays'. -/
def logPlaysUptoCard : Claim7 := { stood := { row := logPlaysUptoRow, standIns := [], harness := (true, "adb3e1418fdbd895e7861c214ab5c4a4ed107df7440cbd214280efccbfd22b6d"), looks := false }, kinds := [], alts := [], laidByText := true, laidKinds := [.data, .data, .data, .data, .data, .data, .data, .data, .data, .data], laidTests := true, laidLooks := .later }
def LogPlaysUptoCardSaid : Prop := Claim7.holds Tryd.pinned (.plain (OpenSpec.upto logPlaysSpec)) logPlaysUptoCard

/-- THE SECOND FORM's CARD OF 'signetlaw36.LogProves'. -/
def logProvesUptoCard : Claim7 := { stood := { row := logProvesUptoRow, standIns := [], harness := (true, "adb3e1418fdbd895e7861c214ab5c4a4ed107df7440cbd214280efccbfd22b6d"), looks := false }, kinds := [], alts := [], laidByText := true, laidKinds := [.data, .data, .data, .data, .data, .data, .data, .data, .data, .data], laidTests := true, laidLooks := .later }
def LogProvesUptoCardSaid : Prop := Claim7.holds Tryd.pinned (.plain (OpenSpec.upto logProvesSpec)) logProvesUptoCard

/-- THE SECOND FORM's CARD OF 'signetlaw36.LogGrows'. -/
def logGrowsUptoCard : Claim7 := { stood := { row := logGrowsUptoRow, standIns := [], harness := (true, "adb3e1418fdbd895e7861c214ab5c4a4ed107df7440cbd214280efccbfd22b6d"), looks := false }, kinds := [], alts := [], laidByText := true, laidKinds := [.data, .data, .data, .data, .data, .data, .data, .data, .data, .data], laidTests := true, laidLooks := .later }
def LogGrowsUptoCardSaid : Prop := Claim7.holds Tryd.pinned (.plain (OpenSpec.upto logGrowsSpec)) logGrowsUptoCard

/-- THE SECOND FORM's CARD OF 'signetlaw36.LogKeeps'. -/
def logKeepsUptoCard : Claim7 := { stood := { row := logKeepsUptoRow, standIns := [], harness := (true, "adb3e1418fdbd895e7861c214ab5c4a4ed107df7440cbd214280efccbfd22b6d"), looks := false }, kinds := [], alts := [], laidByText := true, laidKinds := [.data, .data, .data, .data, .data, .data, .data, .data, .data, .data], laidTests := true, laidLooks := .later }
def LogKeepsUptoCardSaid : Prop := Claim7.holds Tryd.pinned (.plain (OpenSpec.upto logKeepsSpec)) logKeepsUptoCard
end Rows
end Go.Proofs.YtmbifokiebjmmaaDoor
