/-
  DERIVED. GIVEN WITH THE SEED: THE CARDS: each row of YtemiaognopgnnaaGreatDoorRows.lean that lists a variable, with what it lists TIED to the program's text (the seventh form; the later family's looks); each row that meets fmt, with fmt's text TOLD by the authors' own Lean function (tested against real Go, not proved from fmt's source: count such statements apart). THE CARD IS WHAT COUNTS. Prove the row's statement (the work); the ties are given (YtemiaognopgnnaaGreatDoorTie.lean); close each card by the builder's one call (the guide's Derived/Test/ToyasCard.lean, 'card_holds'). Laid BY PROGRAM, IN A SANDBOX (cutbox-door.mjs). By AI agents, Wed Nov 11 2026. No macro, syntax, notation, axiom, sorry.
-/
import Derived.Test.YtemiaognopgnnaaGreatDoorRows
import GoSem.ClaimSeven
namespace Go.Proofs.YtemiaognopgnnaaGreatDoor
namespace Rows

/-- THE TIED CARD OF 'mastlaw2.TreePaths'. -/
def treePathsCard : Claim7 := { stood := { row := treePathsRow, standIns := [], harness := (true, "10e5fcd86b28afbb12bf6d538a3fa5386558ff39ab669ed7fed4705467d9ec3c"), looks := true }, kinds := [], alts := [], laidByText := true, laidKinds := [.data, .pinned], laidTests := true, laidLooks := .later }
def TreePathsCardSaid : Prop := Claim7.holds Tryz.pinned (.plain (OpenSpec.ofChange treePathsSpec)) treePathsCard

/-- THE TIED CARD OF 'mastlaw2.ConfPrints'. -/
def confPrintsCard : Claim7 := { stood := { row := confPrintsRow, standIns := [], harness := (true, "10e5fcd86b28afbb12bf6d538a3fa5386558ff39ab669ed7fed4705467d9ec3c"), looks := true }, kinds := [], alts := [], laidByText := true, laidKinds := [.data, .data, .data, .data, .pinned], laidTests := true, laidLooks := .later }
def ConfPrintsCardSaid : Prop := Claim7.holds Tryz.pinned (.plain (OpenSpec.ofChange confPrintsSpec)) confPrintsCard

/-- THE TIED CARD OF 'mastlaw2.FrontJoins'. -/
def frontJoinsCard : Claim7 := { stood := { row := frontJoinsRow, standIns := [], harness := (true, "10e5fcd86b28afbb12bf6d538a3fa5386558ff39ab669ed7fed4705467d9ec3c"), looks := true }, kinds := [], alts := [], laidByText := true, laidKinds := [.data, .data, .data, .data, .pinned], laidTests := true, laidLooks := .later }
def FrontJoinsCardSaid : Prop := Claim7.holds Tryz.pinned (.plain (OpenSpec.ofChange frontJoinsSpec)) frontJoinsCard

/-- THE TIED CARD OF 'mastlaw2.CondWrites'. -/
def condWritesCard : Claim7 := { stood := { row := condWritesRow, standIns := [], harness := (true, "10e5fcd86b28afbb12bf6d538a3fa5386558ff39ab669ed7fed4705467d9ec3c"), looks := true }, kinds := [], alts := [], laidByText := true, laidKinds := [.data, .data, .data, .data, .widerDeep, .widerDeep, .pinned], laidTests := true, laidLooks := .later }
def CondWritesCardSaid : Prop := Claim7.holds Tryz.pinned (.plain (OpenSpec.ofChange condWritesSpec)) condWritesCard

/-- THE TIED CARD OF 'mastlaw2.MessageWrites'. -/
def messageWritesCard : Claim7 := { stood := { row := messageWritesRow, standIns := [], harness := (true, "10e5fcd86b28afbb12bf6d538a3fa5386558ff39ab669ed7fed4705467d9ec3c"), looks := true }, kinds := [], alts := [], laidByText := true, laidKinds := [.data, .data, .data, .data, .pinned], laidTests := true, laidLooks := .later }
def MessageWritesCardSaid : Prop := Claim7.holds Tryz.pinned (.plain (OpenSpec.ofChange messageWritesSpec)) messageWritesCard

/-- THE SECOND FORM's CARD OF 'mastlaw2.TreePaths'. -/
def treePathsUptoCard : Claim7 := { stood := { row := treePathsUptoRow, standIns := [], harness := (true, "10e5fcd86b28afbb12bf6d538a3fa5386558ff39ab669ed7fed4705467d9ec3c"), looks := true }, kinds := [], alts := [], laidByText := true, laidKinds := [.data, .pinned], laidTests := true, laidLooks := .later }
def TreePathsUptoCardSaid : Prop := Claim7.holds Tryz.pinned (.plain (OpenSpec.upto treePathsSpec)) treePathsUptoCard

/-- THE SECOND FORM's CARD OF 'mastlaw2.ConfPrints'. -/
def confPrintsUptoCard : Claim7 := { stood := { row := confPrintsUptoRow, standIns := [], harness := (true, "10e5fcd86b28afbb12bf6d538a3fa5386558ff39ab669ed7fed4705467d9ec3c"), looks := true }, kinds := [], alts := [], laidByText := true, laidKinds := [.data, .data, .data, .data, .pinned], laidTests := true, laidLooks := .later }
def ConfPrintsUptoCardSaid : Prop := Claim7.holds Tryz.pinned (.plain (OpenSpec.upto confPrintsSpec)) confPrintsUptoCard

/-- THE SECOND FORM's CARD OF 'mastlaw2.FrontJoins'. -/
def frontJoinsUptoCard : Claim7 := { stood := { row := frontJoinsUptoRow, standIns := [], harness := (true, "10e5fcd86b28afbb12bf6d538a3fa5386558ff39ab669ed7fed4705467d9ec3c"), looks := true }, kinds := [], alts := [], laidByText := true, laidKinds := [.data, .data, .data, .data, .pinned], laidTests := true, laidLooks := .later }
def FrontJoinsUptoCardSaid : Prop := Claim7.holds Tryz.pinned (.plain (OpenSpec.upto frontJoinsSpec)) frontJoinsUptoCard

/-- THE SECOND FORM's CARD OF 'mastlaw2.CondWrites'. -/
def condWritesUptoCard : Claim7 := { stood := { row := condWritesUptoRow, standIns := [], harness := (true, "10e5fcd86b28afbb12bf6d538a3fa5386558ff39ab669ed7fed4705467d9ec3c"), looks := true }, kinds := [], alts := [], laidByText := true, laidKinds := [.data, .data, .data, .data, .widerDeep, .widerDeep, .pinned], laidTests := true, laidLooks := .later }
def CondWritesUptoCardSaid : Prop := Claim7.holds Tryz.pinned (.plain (OpenSpec.upto condWritesSpec)) condWritesUptoCard

/-- THE SECOND FORM's CARD OF 'mastlaw2.MessageWrites'. -/
def messageWritesUptoCard : Claim7 := { stood := { row := messageWritesUptoRow, standIns := [], harness := (true, "10e5fcd86b28afbb12bf6d538a3fa5386558ff39ab669ed7fed4705467d9ec3c"), looks := true }, kinds := [], alts := [], laidByText := true, laidKinds := [.data, .data, .data, .data, .pinned], laidTests := true, laidLooks := .later }
def MessageWritesUptoCardSaid : Prop := Claim7.holds Tryz.pinned (.plain (OpenSpec.upto messageWritesSpec)) messageWritesUptoCard
end Rows
end Go.Proofs.YtemiaognopgnnaaGreatDoor
