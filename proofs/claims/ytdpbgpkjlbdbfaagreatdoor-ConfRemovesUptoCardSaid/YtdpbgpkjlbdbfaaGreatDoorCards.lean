/-
  DERIVED. GIVEN WITH THE SEED: THE CARDS: each row of YtdpbgpkjlbdbfaaGreatDoorRows.lean that lists a variable, with what it lists TIED to the program's text (the seventh form; the later family's looks); each row that meets fmt, with fmt's text TOLD by the authors' own Lean function (tested against real Go, not proved from fmt's source: count such statements apart). THE CARD IS WHAT COUNTS. Prove the row's statement (the work); the ties are given (YtdpbgpkjlbdbfaaGreatDoorTie.lean); close each card by the builder's one call (the guide's Derived/Test/ToyasCard.lean, 'card_holds'). Laid BY PROGRAM, IN A SANDBOX (cutbox-door.mjs). By AI agents, Wed Nov 11 2026. No macro, syntax, notation, axiom, sorry.
-/
import Derived.Test.YtdpbgpkjlbdbfaaGreatDoorRows
import GoSem.ClaimSeven
namespace Go.Proofs.YtdpbgpkjlbdbfaaGreatDoor
namespace Rows

/-- THE TIED CARD OF 'mastlaw2.TreeSources'. -/
def treeSourcesCard : Claim7 := { stood := { row := treeSourcesRow, standIns := [], harness := (true, "f421e887af7dea384f37a735808b40d0b74258b5259990798c9ffb4665e214bc"), looks := true }, kinds := [], alts := [], laidByText := true, laidKinds := [.data, .mapped, .pinned], laidTests := true, laidLooks := .later }
def TreeSourcesCardSaid : Prop := Claim7.holds Tryz.pinned (.plain (OpenSpec.ofChange treeSourcesSpec)) treeSourcesCard

/-- THE TIED CARD OF 'mastlaw2.ConfDiffs'. -/
def confDiffsCard : Claim7 := { stood := { row := confDiffsRow, standIns := [], harness := (true, "f421e887af7dea384f37a735808b40d0b74258b5259990798c9ffb4665e214bc"), looks := true }, kinds := [], alts := [], laidByText := true, laidKinds := [.data, .pinned], laidTests := true, laidLooks := .later }
def ConfDiffsCardSaid : Prop := Claim7.holds Tryz.pinned (.plain (OpenSpec.ofChange confDiffsSpec)) confDiffsCard

/-- THE TIED CARD OF 'mastlaw2.ConfRemoves'. -/
def confRemovesCard : Claim7 := { stood := { row := confRemovesRow, standIns := [], harness := (true, "f421e887af7dea384f37a735808b40d0b74258b5259990798c9ffb4665e214bc"), looks := true }, kinds := [], alts := [], laidByText := true, laidKinds := [.data, .data, .data, .data, .sentinel, .sentinel, .pinned], laidTests := true, laidLooks := .later }
def ConfRemovesCardSaid : Prop := Claim7.holds Tryz.pinned (.plain (OpenSpec.ofChange confRemovesSpec)) confRemovesCard

/-- THE TIED CARD OF 'mastlaw2.ConfSets'. -/
def confSetsCard : Claim7 := { stood := { row := confSetsRow, standIns := [], harness := (true, "f421e887af7dea384f37a735808b40d0b74258b5259990798c9ffb4665e214bc"), looks := true }, kinds := [], alts := [], laidByText := true, laidKinds := [.data, .data, .data, .data, .sentinel, .sentinel, .pinned], laidTests := true, laidLooks := .later }
def ConfSetsCardSaid : Prop := Claim7.holds Tryz.pinned (.plain (OpenSpec.ofChange confSetsSpec)) confSetsCard

/-- THE TIED CARD OF 'mastlaw2.ConfApplies'. -/
def confAppliesCard : Claim7 := { stood := { row := confAppliesRow, standIns := [], harness := (true, "f421e887af7dea384f37a735808b40d0b74258b5259990798c9ffb4665e214bc"), looks := true }, kinds := [], alts := [], laidByText := true, laidKinds := [.data, .data, .data, .data, .sentinel, .sentinel, .pinned], laidTests := true, laidLooks := .later }
def ConfAppliesCardSaid : Prop := Claim7.holds Tryz.pinned (.plain (OpenSpec.ofChange confAppliesSpec)) confAppliesCard

/-- THE TIED CARD OF 'mastlaw2.SchemaFills'. -/
def schemaFillsCard : Claim7 := { stood := { row := schemaFillsRow, standIns := [], harness := (true, "f421e887af7dea384f37a735808b40d0b74258b5259990798c9ffb4665e214bc"), looks := true }, kinds := [], alts := [], laidByText := true, laidKinds := [.data, .data, .data, .data, .sentinel, .sentinel, .pinned], laidTests := true, laidLooks := .later }
def SchemaFillsCardSaid : Prop := Claim7.holds Tryz.pinned (.plain (OpenSpec.ofChange schemaFillsSpec)) schemaFillsCard

/-- THE TIED CARD OF 'mastlaw2.TreePaths'. -/
def treePathsCard : Claim7 := { stood := { row := treePathsRow, standIns := [], harness := (true, "f421e887af7dea384f37a735808b40d0b74258b5259990798c9ffb4665e214bc"), looks := true }, kinds := [], alts := [], laidByText := true, laidKinds := [.data, .pinned], laidTests := true, laidLooks := .later }
def TreePathsCardSaid : Prop := Claim7.holds Tryz.pinned (.plain (OpenSpec.ofChange treePathsSpec)) treePathsCard

/-- THE TIED CARD OF 'mastlaw2.ConfPrints'. -/
def confPrintsCard : Claim7 := { stood := { row := confPrintsRow, standIns := [], harness := (true, "f421e887af7dea384f37a735808b40d0b74258b5259990798c9ffb4665e214bc"), looks := true }, kinds := [], alts := [], laidByText := true, laidKinds := [.data, .data, .data, .data, .pinned], laidTests := true, laidLooks := .later }
def ConfPrintsCardSaid : Prop := Claim7.holds Tryz.pinned (.plain (OpenSpec.ofChange confPrintsSpec)) confPrintsCard

/-- THE SECOND FORM's CARD OF 'mastlaw2.TreeSources'. -/
def treeSourcesUptoCard : Claim7 := { stood := { row := treeSourcesUptoRow, standIns := [], harness := (true, "f421e887af7dea384f37a735808b40d0b74258b5259990798c9ffb4665e214bc"), looks := true }, kinds := [], alts := [], laidByText := true, laidKinds := [.data, .mapped, .pinned], laidTests := true, laidLooks := .later }
def TreeSourcesUptoCardSaid : Prop := Claim7.holds Tryz.pinned (.plain (OpenSpec.upto treeSourcesSpec)) treeSourcesUptoCard

/-- THE SECOND FORM's CARD OF 'mastlaw2.ConfDiffs'. -/
def confDiffsUptoCard : Claim7 := { stood := { row := confDiffsUptoRow, standIns := [], harness := (true, "f421e887af7dea384f37a735808b40d0b74258b5259990798c9ffb4665e214bc"), looks := true }, kinds := [], alts := [], laidByText := true, laidKinds := [.data, .pinned], laidTests := true, laidLooks := .later }
def ConfDiffsUptoCardSaid : Prop := Claim7.holds Tryz.pinned (.plain (OpenSpec.upto confDiffsSpec)) confDiffsUptoCard

/-- THE SECOND FORM's CARD OF 'mastlaw2.ConfRemoves'. -/
def confRemovesUptoCard : Claim7 := { stood := { row := confRemovesUptoRow, standIns := [], harness := (true, "f421e887af7dea384f37a735808b40d0b74258b5259990798c9ffb4665e214bc"), looks := true }, kinds := [], alts := [], laidByText := true, laidKinds := [.data, .data, .data, .data, .sentinel, .sentinel, .pinned], laidTests := true, laidLooks := .later }
def ConfRemovesUptoCardSaid : Prop := Claim7.holds Tryz.pinned (.plain (OpenSpec.upto confRemovesSpec)) confRemovesUptoCard

/-- THE SECOND FORM's CARD OF 'mastlaw2.ConfSets'. -/
def confSetsUptoCard : Claim7 := { stood := { row := confSetsUptoRow, standIns := [], harness := (true, "f421e887af7dea384f37a735808b40d0b74258b5259990798c9ffb4665e214bc"), looks := true }, kinds := [], alts := [], laidByText := true, laidKinds := [.data, .data, .data, .data, .sentinel, .sentinel, .pinned], laidTests := true, laidLooks := .later }
def ConfSetsUptoCardSaid : Prop := Claim7.holds Tryz.pinned (.plain (OpenSpec.upto confSetsSpec)) confSetsUptoCard

/-- THE SECOND FORM's CARD OF 'mastlaw2.ConfApplies'. -/
def confAppliesUptoCard : Claim7 := { stood := { row := confAppliesUptoRow, standIns := [], harness := (true, "f421e887af7dea384f37a735808b40d0b74258b5259990798c9ffb4665e214bc"), looks := true }, kinds := [], alts := [], laidByText := true, laidKinds := [.data, .data, .data, .data, .sentinel, .sentinel, .pinned], laidTests := true, laidLooks := .later }
def ConfAppliesUptoCardSaid : Prop := Claim7.holds Tryz.pinned (.plain (OpenSpec.upto confAppliesSpec)) confAppliesUptoCard

/-- THE SECOND FORM's CARD OF 'mastlaw2.SchemaFills'. -/
def schemaFillsUptoCard : Claim7 := { stood := { row := schemaFillsUptoRow, standIns := [], harness := (true, "f421e887af7dea384f37a735808b40d0b74258b5259990798c9ffb4665e214bc"), looks := true }, kinds := [], alts := [], laidByText := true, laidKinds := [.data, .data, .data, .data, .sentinel, .sentinel, .pinned], laidTests := true, laidLooks := .later }
def SchemaFillsUptoCardSaid : Prop := Claim7.holds Tryz.pinned (.plain (OpenSpec.upto schemaFillsSpec)) schemaFillsUptoCard

/-- THE SECOND FORM's CARD OF 'mastlaw2.TreePaths'. -/
def treePathsUptoCard : Claim7 := { stood := { row := treePathsUptoRow, standIns := [], harness := (true, "f421e887af7dea384f37a735808b40d0b74258b5259990798c9ffb4665e214bc"), looks := true }, kinds := [], alts := [], laidByText := true, laidKinds := [.data, .pinned], laidTests := true, laidLooks := .later }
def TreePathsUptoCardSaid : Prop := Claim7.holds Tryz.pinned (.plain (OpenSpec.upto treePathsSpec)) treePathsUptoCard

/-- THE SECOND FORM's CARD OF 'mastlaw2.ConfPrints'. -/
def confPrintsUptoCard : Claim7 := { stood := { row := confPrintsUptoRow, standIns := [], harness := (true, "f421e887af7dea384f37a735808b40d0b74258b5259990798c9ffb4665e214bc"), looks := true }, kinds := [], alts := [], laidByText := true, laidKinds := [.data, .data, .data, .data, .pinned], laidTests := true, laidLooks := .later }
def ConfPrintsUptoCardSaid : Prop := Claim7.holds Tryz.pinned (.plain (OpenSpec.upto confPrintsSpec)) confPrintsUptoCard
end Rows
end Go.Proofs.YtdpbgpkjlbdbfaaGreatDoor
