/-
  DERIVED. GIVEN WITH THE SEED: THE CARDS: each row of YtiaibkbflmamgaaGreatDoorRows.lean that lists a variable, with what it lists TIED to the program's text (the seventh form; the later family's looks); each row that meets fmt, with fmt's text TOLD by the authors' own Lean function (tested against real Go, not proved from fmt's source: count such statements apart). THE CARD IS WHAT COUNTS. Prove the row's statement (the work); the ties are given (YtiaibkbflmamgaaGreatDoorTie.lean); close each card by the builder's one call (the guide's Derived/Test/ToyasCard.lean, 'card_holds'). Laid BY PROGRAM, IN A SANDBOX (cutbox-door.mjs). By AI agents, Wed Nov 11 2026. No macro, syntax, notation, axiom, sorry.
-/
import Derived.Test.YtiaibkbflmamgaaGreatDoorRows
import GoSem.ClaimSeven
namespace Go.Proofs.YtiaibkbflmamgaaGreatDoor
namespace Rows

/-- THE TIED CARD OF 'mastlaw2.TreePaths'. -/
def treePathsCard : Claim7 := { stood := { row := treePathsRow, standIns := [], harness := (true, "27d4de06f6ea8ba8a42bcc9c63f6f4da9e647c538c85656e0910381943e66253"), looks := true }, kinds := [], alts := [], laidByText := true, laidKinds := [.data, .pinned], laidTests := true, laidLooks := .later }
def TreePathsCardSaid : Prop := Claim7.holds Tryz.pinned (.plain (OpenSpec.ofChange treePathsSpec)) treePathsCard

/-- THE TIED CARD OF 'mastlaw2.ConfDiffs'. -/
def confDiffsCard : Claim7 := { stood := { row := confDiffsRow, standIns := [], harness := (true, "27d4de06f6ea8ba8a42bcc9c63f6f4da9e647c538c85656e0910381943e66253"), looks := true }, kinds := [], alts := [], laidByText := true, laidKinds := [.data, .pinned], laidTests := true, laidLooks := .later }
def ConfDiffsCardSaid : Prop := Claim7.holds Tryz.pinned (.plain (OpenSpec.ofChange confDiffsSpec)) confDiffsCard

/-- THE TIED CARD OF 'mastlaw2.MessageWrites'. -/
def messageWritesCard : Claim7 := { stood := { row := messageWritesRow, standIns := [], harness := (true, "27d4de06f6ea8ba8a42bcc9c63f6f4da9e647c538c85656e0910381943e66253"), looks := true }, kinds := [], alts := [], laidByText := true, laidKinds := [.data, .data, .data, .data, .pinned], laidTests := true, laidLooks := .later }
def MessageWritesCardSaid : Prop := Claim7.holds Tryz.pinned (.plain (OpenSpec.ofChange messageWritesSpec)) messageWritesCard

/-- THE SECOND FORM's CARD OF 'mastlaw2.TreePaths'. -/
def treePathsUptoCard : Claim7 := { stood := { row := treePathsUptoRow, standIns := [], harness := (true, "27d4de06f6ea8ba8a42bcc9c63f6f4da9e647c538c85656e0910381943e66253"), looks := true }, kinds := [], alts := [], laidByText := true, laidKinds := [.data, .pinned], laidTests := true, laidLooks := .later }
def TreePathsUptoCardSaid : Prop := Claim7.holds Tryz.pinned (.plain (OpenSpec.upto treePathsSpec)) treePathsUptoCard

/-- THE SECOND FORM's CARD OF 'mastlaw2.ConfDiffs'. -/
def confDiffsUptoCard : Claim7 := { stood := { row := confDiffsUptoRow, standIns := [], harness := (true, "27d4de06f6ea8ba8a42bcc9c63f6f4da9e647c538c85656e0910381943e66253"), looks := true }, kinds := [], alts := [], laidByText := true, laidKinds := [.data, .pinned], laidTests := true, laidLooks := .later }
def ConfDiffsUptoCardSaid : Prop := Claim7.holds Tryz.pinned (.plain (OpenSpec.upto confDiffsSpec)) confDiffsUptoCard

/-- THE SECOND FORM's CARD OF 'mastlaw2.MessageWrites'. -/
def messageWritesUptoCard : Claim7 := { stood := { row := messageWritesUptoRow, standIns := [], harness := (true, "27d4de06f6ea8ba8a42bcc9c63f6f4da9e647c538c85656e0910381943e66253"), looks := true }, kinds := [], alts := [], laidByText := true, laidKinds := [.data, .data, .data, .data, .pinned], laidTests := true, laidLooks := .later }
def MessageWritesUptoCardSaid : Prop := Claim7.holds Tryz.pinned (.plain (OpenSpec.upto messageWritesSpec)) messageWritesUptoCard
end Rows
end Go.Proofs.YtiaibkbflmamgaaGreatDoor
