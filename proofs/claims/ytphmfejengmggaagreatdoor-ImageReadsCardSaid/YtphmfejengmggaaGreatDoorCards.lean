/-
  DERIVED. GIVEN WITH THE SEED: THE CARDS: each row of YtphmfejengmggaaGreatDoorRows.lean that lists a variable, with what it lists TIED to the program's text (the seventh form; the later family's looks); each row that meets fmt, with fmt's text TOLD by the authors' own Lean function (tested against real Go, not proved from fmt's source: count such statements apart). THE CARD IS WHAT COUNTS. Prove the row's statement (the work); the ties are given (YtphmfejengmggaaGreatDoorTie.lean); close each card by the builder's one call (the guide's Derived/Test/ToyasCard.lean, 'card_holds'). Laid BY PROGRAM, IN A SANDBOX (cutbox-door.mjs). By AI agents, Wed Nov 11 2026. No macro, syntax, notation, axiom, sorry.
-/
import Derived.Test.YtphmfejengmggaaGreatDoorRows
import GoSem.ClaimSeven
namespace Go.Proofs.YtphmfejengmggaaGreatDoor
namespace Rows

/-- THE TIED CARD OF 'mastlaw2.ConfRoutes'. -/
def confRoutesCard : Claim7 := { stood := { row := confRoutesRow, standIns := [], harness := (true, "4a96815b3a5e15ceb7dde102b09bbe773eb1fb37d31d8395962a86ed93fc5e51"), looks := true }, kinds := [], alts := [], laidByText := true, laidKinds := [.data, .data, .data, .data, .pinned], laidTests := true, laidLooks := .later }
def ConfRoutesCardSaid : Prop := Claim7.holds Tryz.pinned (.plain (OpenSpec.ofChange confRoutesSpec)) confRoutesCard

/-- THE TIED CARD OF 'mastlaw2.ImageReads'. -/
def imageReadsCard : Claim7 := { stood := { row := imageReadsRow, standIns := [], harness := (true, "4a96815b3a5e15ceb7dde102b09bbe773eb1fb37d31d8395962a86ed93fc5e51"), looks := true }, kinds := [], alts := [], laidByText := true, laidKinds := [.data, .data, .data, .data, .sentinel, .sentinel, .pinned], laidTests := true, laidLooks := .later }
def ImageReadsCardSaid : Prop := Claim7.holds Tryz.pinned (.plain (OpenSpec.ofChange imageReadsSpec)) imageReadsCard

/-- THE TIED CARD OF 'mastlaw2.AssetBundles'. -/
def assetBundlesCard : Claim7 := { stood := { row := assetBundlesRow, standIns := [], harness := (true, "4a96815b3a5e15ceb7dde102b09bbe773eb1fb37d31d8395962a86ed93fc5e51"), looks := true }, kinds := [], alts := [], laidByText := true, laidKinds := [.data, .pinned], laidTests := true, laidLooks := .later }
def AssetBundlesCardSaid : Prop := Claim7.holds Tryz.pinned (.plain (OpenSpec.ofChange assetBundlesSpec)) assetBundlesCard

/-- THE TIED CARD OF 'mastlaw2.ConfDiffs'. -/
def confDiffsCard : Claim7 := { stood := { row := confDiffsRow, standIns := [], harness := (true, "4a96815b3a5e15ceb7dde102b09bbe773eb1fb37d31d8395962a86ed93fc5e51"), looks := true }, kinds := [], alts := [], laidByText := true, laidKinds := [.data, .pinned], laidTests := true, laidLooks := .later }
def ConfDiffsCardSaid : Prop := Claim7.holds Tryz.pinned (.plain (OpenSpec.ofChange confDiffsSpec)) confDiffsCard

/-- THE TIED CARD OF 'mastlaw2.ListGroups'. -/
def listGroupsCard : Claim7 := { stood := { row := listGroupsRow, standIns := [], harness := (true, "4a96815b3a5e15ceb7dde102b09bbe773eb1fb37d31d8395962a86ed93fc5e51"), looks := true }, kinds := [], alts := [], laidByText := true, laidKinds := [.data, .data, .data, .data, .sentinel, .sentinel, .pinned], laidTests := true, laidLooks := .later }
def ListGroupsCardSaid : Prop := Claim7.holds Tryz.pinned (.plain (OpenSpec.ofChange listGroupsSpec)) listGroupsCard

/-- THE TIED CARD OF 'mastlaw2.ListSets'. -/
def listSetsCard : Claim7 := { stood := { row := listSetsRow, standIns := [], harness := (true, "4a96815b3a5e15ceb7dde102b09bbe773eb1fb37d31d8395962a86ed93fc5e51"), looks := true }, kinds := [], alts := [], laidByText := true, laidKinds := [.data, .pinned], laidTests := true, laidLooks := .later }
def ListSetsCardSaid : Prop := Claim7.holds Tryz.pinned (.plain (OpenSpec.ofChange listSetsSpec)) listSetsCard

/-- THE TIED CARD OF 'mastlaw2.SchemaFaults'. -/
def schemaFaultsCard : Claim7 := { stood := { row := schemaFaultsRow, standIns := [], harness := (true, "4a96815b3a5e15ceb7dde102b09bbe773eb1fb37d31d8395962a86ed93fc5e51"), looks := true }, kinds := [], alts := [], laidByText := true, laidKinds := [.data, .data, .data, .data, .sentinel, .sentinel, .pinned], laidTests := true, laidLooks := .later }
def SchemaFaultsCardSaid : Prop := Claim7.holds Tryz.pinned (.plain (OpenSpec.ofChange schemaFaultsSpec)) schemaFaultsCard

/-- THE TIED CARD OF 'mastlaw2.SchemaWrites'. -/
def schemaWritesCard : Claim7 := { stood := { row := schemaWritesRow, standIns := [], harness := (true, "4a96815b3a5e15ceb7dde102b09bbe773eb1fb37d31d8395962a86ed93fc5e51"), looks := true }, kinds := [], alts := [], laidByText := true, laidKinds := [.data, .data, .data, .data, .sentinel, .sentinel, .data, .widerDeep, .pinned], laidTests := true, laidLooks := .later }
def SchemaWritesCardSaid : Prop := Claim7.holds Tryz.pinned (.plain (OpenSpec.ofChange schemaWritesSpec)) schemaWritesCard

/-- THE TIED CARD OF 'mastlaw2.TermFacts'. -/
def termFactsCard : Claim7 := { stood := { row := termFactsRow, standIns := [], harness := (true, "4a96815b3a5e15ceb7dde102b09bbe773eb1fb37d31d8395962a86ed93fc5e51"), looks := true }, kinds := [], alts := [], laidByText := true, laidKinds := [.data, .pinned], laidTests := true, laidLooks := .later }
def TermFactsCardSaid : Prop := Claim7.holds Tryz.pinned (.plain (OpenSpec.ofChange termFactsSpec)) termFactsCard

/-- THE SECOND FORM's CARD OF 'mastlaw2.ConfRoutes'. -/
def confRoutesUptoCard : Claim7 := { stood := { row := confRoutesUptoRow, standIns := [], harness := (true, "4a96815b3a5e15ceb7dde102b09bbe773eb1fb37d31d8395962a86ed93fc5e51"), looks := true }, kinds := [], alts := [], laidByText := true, laidKinds := [.data, .data, .data, .data, .pinned], laidTests := true, laidLooks := .later }
def ConfRoutesUptoCardSaid : Prop := Claim7.holds Tryz.pinned (.plain (OpenSpec.upto confRoutesSpec)) confRoutesUptoCard

/-- THE SECOND FORM's CARD OF 'mastlaw2.ImageReads'. -/
def imageReadsUptoCard : Claim7 := { stood := { row := imageReadsUptoRow, standIns := [], harness := (true, "4a96815b3a5e15ceb7dde102b09bbe773eb1fb37d31d8395962a86ed93fc5e51"), looks := true }, kinds := [], alts := [], laidByText := true, laidKinds := [.data, .data, .data, .data, .sentinel, .sentinel, .pinned], laidTests := true, laidLooks := .later }
def ImageReadsUptoCardSaid : Prop := Claim7.holds Tryz.pinned (.plain (OpenSpec.upto imageReadsSpec)) imageReadsUptoCard

/-- THE SECOND FORM's CARD OF 'mastlaw2.AssetBundles'. -/
def assetBundlesUptoCard : Claim7 := { stood := { row := assetBundlesUptoRow, standIns := [], harness := (true, "4a96815b3a5e15ceb7dde102b09bbe773eb1fb37d31d8395962a86ed93fc5e51"), looks := true }, kinds := [], alts := [], laidByText := true, laidKinds := [.data, .pinned], laidTests := true, laidLooks := .later }
def AssetBundlesUptoCardSaid : Prop := Claim7.holds Tryz.pinned (.plain (OpenSpec.upto assetBundlesSpec)) assetBundlesUptoCard

/-- THE SECOND FORM's CARD OF 'mastlaw2.ConfDiffs'. -/
def confDiffsUptoCard : Claim7 := { stood := { row := confDiffsUptoRow, standIns := [], harness := (true, "4a96815b3a5e15ceb7dde102b09bbe773eb1fb37d31d8395962a86ed93fc5e51"), looks := true }, kinds := [], alts := [], laidByText := true, laidKinds := [.data, .pinned], laidTests := true, laidLooks := .later }
def ConfDiffsUptoCardSaid : Prop := Claim7.holds Tryz.pinned (.plain (OpenSpec.upto confDiffsSpec)) confDiffsUptoCard

/-- THE SECOND FORM's CARD OF 'mastlaw2.ListGroups'. -/
def listGroupsUptoCard : Claim7 := { stood := { row := listGroupsUptoRow, standIns := [], harness := (true, "4a96815b3a5e15ceb7dde102b09bbe773eb1fb37d31d8395962a86ed93fc5e51"), looks := true }, kinds := [], alts := [], laidByText := true, laidKinds := [.data, .data, .data, .data, .sentinel, .sentinel, .pinned], laidTests := true, laidLooks := .later }
def ListGroupsUptoCardSaid : Prop := Claim7.holds Tryz.pinned (.plain (OpenSpec.upto listGroupsSpec)) listGroupsUptoCard

/-- THE SECOND FORM's CARD OF 'mastlaw2.ListSets'. -/
def listSetsUptoCard : Claim7 := { stood := { row := listSetsUptoRow, standIns := [], harness := (true, "4a96815b3a5e15ceb7dde102b09bbe773eb1fb37d31d8395962a86ed93fc5e51"), looks := true }, kinds := [], alts := [], laidByText := true, laidKinds := [.data, .pinned], laidTests := true, laidLooks := .later }
def ListSetsUptoCardSaid : Prop := Claim7.holds Tryz.pinned (.plain (OpenSpec.upto listSetsSpec)) listSetsUptoCard

/-- THE SECOND FORM's CARD OF 'mastlaw2.SchemaFaults'. -/
def schemaFaultsUptoCard : Claim7 := { stood := { row := schemaFaultsUptoRow, standIns := [], harness := (true, "4a96815b3a5e15ceb7dde102b09bbe773eb1fb37d31d8395962a86ed93fc5e51"), looks := true }, kinds := [], alts := [], laidByText := true, laidKinds := [.data, .data, .data, .data, .sentinel, .sentinel, .pinned], laidTests := true, laidLooks := .later }
def SchemaFaultsUptoCardSaid : Prop := Claim7.holds Tryz.pinned (.plain (OpenSpec.upto schemaFaultsSpec)) schemaFaultsUptoCard

/-- THE SECOND FORM's CARD OF 'mastlaw2.SchemaWrites'. -/
def schemaWritesUptoCard : Claim7 := { stood := { row := schemaWritesUptoRow, standIns := [], harness := (true, "4a96815b3a5e15ceb7dde102b09bbe773eb1fb37d31d8395962a86ed93fc5e51"), looks := true }, kinds := [], alts := [], laidByText := true, laidKinds := [.data, .data, .data, .data, .sentinel, .sentinel, .data, .widerDeep, .pinned], laidTests := true, laidLooks := .later }
def SchemaWritesUptoCardSaid : Prop := Claim7.holds Tryz.pinned (.plain (OpenSpec.upto schemaWritesSpec)) schemaWritesUptoCard

/-- THE SECOND FORM's CARD OF 'mastlaw2.TermFacts'. -/
def termFactsUptoCard : Claim7 := { stood := { row := termFactsUptoRow, standIns := [], harness := (true, "4a96815b3a5e15ceb7dde102b09bbe773eb1fb37d31d8395962a86ed93fc5e51"), looks := true }, kinds := [], alts := [], laidByText := true, laidKinds := [.data, .pinned], laidTests := true, laidLooks := .later }
def TermFactsUptoCardSaid : Prop := Claim7.holds Tryz.pinned (.plain (OpenSpec.upto termFactsSpec)) termFactsUptoCard
end Rows
end Go.Proofs.YtphmfejengmggaaGreatDoor
