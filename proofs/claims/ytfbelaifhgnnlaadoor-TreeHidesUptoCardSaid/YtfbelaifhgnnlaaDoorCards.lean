/-
  DERIVED. GIVEN WITH THE SEED: THE CARDS: each row of YtfbelaifhgnnlaaDoorRows.lean that lists a variable, with what it lists TIED to the program's text (the seventh form; the later family's looks); each row that meets fmt, with fmt's text TOLD by the authors' own Lean function (tested against real Go, not proved from fmt's source: count such statements apart). THE CARD IS WHAT COUNTS. Prove the row's statement (the work); the ties are given (YtfbelaifhgnnlaaDoorTie.lean); close each card by the builder's one call (the guide's Derived/Test/ToyasCard.lean, 'card_holds'). Laid BY PROGRAM, IN A SANDBOX (cutbox-door.mjs). By AI agents, Wed Nov 11 2026. No macro, syntax, notation, axiom, sorry.
-/
import Derived.Test.YtfbelaifhgnnlaaDoorRows
import GoSem.ClaimSeven
namespace Go.Proofs.YtfbelaifhgnnlaaDoor
namespace Rows

/-- THE TIED CARD OF 'mastlaw2.DayReads'. -/
def dayReadsCard : Claim7 := { stood := { row := dayReadsRow, standIns := [], harness := (true, "c4a6633390251ab55d986c91d9a51a00da4336f4505d035a56fe00228916926b"), looks := true }, kinds := [], alts := [], laidByText := true, laidKinds := [.data, .data, .data, .data, .sentinel, .sentinel, .pinned], laidTests := true, laidLooks := .later }
def DayReadsCardSaid : Prop := Claim7.holds Tryd.pinned (.plain (OpenSpec.ofChange dayReadsSpec)) dayReadsCard

/-- THE TIED CARD OF 'mastlaw2.AssetMaps'. -/
def assetMapsCard : Claim7 := { stood := { row := assetMapsRow, standIns := [], harness := (true, "c4a6633390251ab55d986c91d9a51a00da4336f4505d035a56fe00228916926b"), looks := true }, kinds := [], alts := [], laidByText := true, laidKinds := [.data, .data, .data, .data, .pinned], laidTests := true, laidLooks := .later }
def AssetMapsCardSaid : Prop := Claim7.holds Tryd.pinned (.plain (OpenSpec.ofChange assetMapsSpec)) assetMapsCard

/-- THE TIED CARD OF 'mastlaw2.ImageSources'. -/
def imageSourcesCard : Claim7 := { stood := { row := imageSourcesRow, standIns := [], harness := (true, "c4a6633390251ab55d986c91d9a51a00da4336f4505d035a56fe00228916926b"), looks := true }, kinds := [], alts := [], laidByText := true, laidKinds := [.data, .data, .data, .data, .pinned], laidTests := true, laidLooks := .later }
def ImageSourcesCardSaid : Prop := Claim7.holds Tryd.pinned (.plain (OpenSpec.ofChange imageSourcesSpec)) imageSourcesCard

/-- THE TIED CARD OF 'mastlaw2.ConfChecks'. -/
def confChecksCard : Claim7 := { stood := { row := confChecksRow, standIns := [], harness := (true, "c4a6633390251ab55d986c91d9a51a00da4336f4505d035a56fe00228916926b"), looks := true }, kinds := [], alts := [], laidByText := true, laidKinds := [.data, .pinned], laidTests := true, laidLooks := .later }
def ConfChecksCardSaid : Prop := Claim7.holds Tryd.pinned (.plain (OpenSpec.ofChange confChecksSpec)) confChecksCard

/-- THE TIED CARD OF 'mastlaw2.TreeHides'. -/
def treeHidesCard : Claim7 := { stood := { row := treeHidesRow, standIns := [], harness := (true, "c4a6633390251ab55d986c91d9a51a00da4336f4505d035a56fe00228916926b"), looks := true }, kinds := [], alts := [], laidByText := true, laidKinds := [.data, .pinned], laidTests := true, laidLooks := .later }
def TreeHidesCardSaid : Prop := Claim7.holds Tryd.pinned (.plain (OpenSpec.ofChange treeHidesSpec)) treeHidesCard

/-- THE TIED CARD OF 'mastlaw2.ListItems'. -/
def listItemsCard : Claim7 := { stood := { row := listItemsRow, standIns := [], harness := (true, "c4a6633390251ab55d986c91d9a51a00da4336f4505d035a56fe00228916926b"), looks := true }, kinds := [], alts := [], laidByText := true, laidKinds := [.data, .pinned], laidTests := true, laidLooks := .later }
def ListItemsCardSaid : Prop := Claim7.holds Tryd.pinned (.plain (OpenSpec.ofChange listItemsSpec)) listItemsCard

/-- THE TIED CARD OF 'mastlaw2.ConfMerges'. -/
def confMergesCard : Claim7 := { stood := { row := confMergesRow, standIns := [], harness := (true, "c4a6633390251ab55d986c91d9a51a00da4336f4505d035a56fe00228916926b"), looks := true }, kinds := [], alts := [], laidByText := true, laidKinds := [.data, .pinned], laidTests := true, laidLooks := .later }
def ConfMergesCardSaid : Prop := Claim7.holds Tryd.pinned (.plain (OpenSpec.ofChange confMergesSpec)) confMergesCard

/-- THE SECOND FORM's CARD OF 'mastlaw2.DayReads'. -/
def dayReadsUptoCard : Claim7 := { stood := { row := dayReadsUptoRow, standIns := [], harness := (true, "c4a6633390251ab55d986c91d9a51a00da4336f4505d035a56fe00228916926b"), looks := true }, kinds := [], alts := [], laidByText := true, laidKinds := [.data, .data, .data, .data, .sentinel, .sentinel, .pinned], laidTests := true, laidLooks := .later }
def DayReadsUptoCardSaid : Prop := Claim7.holds Tryd.pinned (.plain (OpenSpec.upto dayReadsSpec)) dayReadsUptoCard

/-- THE SECOND FORM's CARD OF 'mastlaw2.AssetMaps'. -/
def assetMapsUptoCard : Claim7 := { stood := { row := assetMapsUptoRow, standIns := [], harness := (true, "c4a6633390251ab55d986c91d9a51a00da4336f4505d035a56fe00228916926b"), looks := true }, kinds := [], alts := [], laidByText := true, laidKinds := [.data, .data, .data, .data, .pinned], laidTests := true, laidLooks := .later }
def AssetMapsUptoCardSaid : Prop := Claim7.holds Tryd.pinned (.plain (OpenSpec.upto assetMapsSpec)) assetMapsUptoCard

/-- THE SECOND FORM's CARD OF 'mastlaw2.ImageSources'. -/
def imageSourcesUptoCard : Claim7 := { stood := { row := imageSourcesUptoRow, standIns := [], harness := (true, "c4a6633390251ab55d986c91d9a51a00da4336f4505d035a56fe00228916926b"), looks := true }, kinds := [], alts := [], laidByText := true, laidKinds := [.data, .data, .data, .data, .pinned], laidTests := true, laidLooks := .later }
def ImageSourcesUptoCardSaid : Prop := Claim7.holds Tryd.pinned (.plain (OpenSpec.upto imageSourcesSpec)) imageSourcesUptoCard

/-- THE SECOND FORM's CARD OF 'mastlaw2.ConfChecks'. -/
def confChecksUptoCard : Claim7 := { stood := { row := confChecksUptoRow, standIns := [], harness := (true, "c4a6633390251ab55d986c91d9a51a00da4336f4505d035a56fe00228916926b"), looks := true }, kinds := [], alts := [], laidByText := true, laidKinds := [.data, .pinned], laidTests := true, laidLooks := .later }
def ConfChecksUptoCardSaid : Prop := Claim7.holds Tryd.pinned (.plain (OpenSpec.upto confChecksSpec)) confChecksUptoCard

/-- THE SECOND FORM's CARD OF 'mastlaw2.TreeHides'. -/
def treeHidesUptoCard : Claim7 := { stood := { row := treeHidesUptoRow, standIns := [], harness := (true, "c4a6633390251ab55d986c91d9a51a00da4336f4505d035a56fe00228916926b"), looks := true }, kinds := [], alts := [], laidByText := true, laidKinds := [.data, .pinned], laidTests := true, laidLooks := .later }
def TreeHidesUptoCardSaid : Prop := Claim7.holds Tryd.pinned (.plain (OpenSpec.upto treeHidesSpec)) treeHidesUptoCard

/-- THE SECOND FORM's CARD OF 'mastlaw2.ListItems'. -/
def listItemsUptoCard : Claim7 := { stood := { row := listItemsUptoRow, standIns := [], harness := (true, "c4a6633390251ab55d986c91d9a51a00da4336f4505d035a56fe00228916926b"), looks := true }, kinds := [], alts := [], laidByText := true, laidKinds := [.data, .pinned], laidTests := true, laidLooks := .later }
def ListItemsUptoCardSaid : Prop := Claim7.holds Tryd.pinned (.plain (OpenSpec.upto listItemsSpec)) listItemsUptoCard

/-- THE SECOND FORM's CARD OF 'mastlaw2.ConfMerges'. -/
def confMergesUptoCard : Claim7 := { stood := { row := confMergesUptoRow, standIns := [], harness := (true, "c4a6633390251ab55d986c91d9a51a00da4336f4505d035a56fe00228916926b"), looks := true }, kinds := [], alts := [], laidByText := true, laidKinds := [.data, .pinned], laidTests := true, laidLooks := .later }
def ConfMergesUptoCardSaid : Prop := Claim7.holds Tryd.pinned (.plain (OpenSpec.upto confMergesSpec)) confMergesUptoCard
end Rows
end Go.Proofs.YtfbelaifhgnnlaaDoor
