/-
  DERIVED. GIVEN WITH THE SEED: THE CARDS: each row of YtkjflkbjepdaaaaGreatDoorRows.lean that lists a variable, with what it lists TIED to the program's text (the seventh form; the later family's looks); each row that meets fmt, with fmt's text TOLD by the authors' own Lean function (tested against real Go, not proved from fmt's source: count such statements apart). THE CARD IS WHAT COUNTS. Prove the row's statement (the work); the ties are given (YtkjflkbjepdaaaaGreatDoorTie.lean); close each card by the builder's one call (the guide's Derived/Test/ToyasCard.lean, 'card_holds'). Laid BY PROGRAM, IN A SANDBOX (cutbox-door.mjs). By AI agents, Wed Nov 11 2026. No macro, syntax, notation, axiom, sorry.
-/
import Derived.Test.YtkjflkbjepdaaaaGreatDoorRows
import GoSem.ClaimSeven
namespace Go.Proofs.YtkjflkbjepdaaaaGreatDoor
namespace Rows

/-- THE TIED CARD OF 'mastlaw2.CondHolds'. -/
def condHoldsCard : Claim7 := { stood := { row := condHoldsRow, standIns := [], harness := (true, "c310805a716e155bc4fb56aa149ab9e127f58287f246a465692566615408bdb5"), looks := true }, kinds := [], alts := [], laidByText := true, laidKinds := [.data, .data, .data, .data, .sentinel, .sentinel, .widerDeep, .pinned], laidTests := true, laidLooks := .later }
def CondHoldsCardSaid : Prop := Claim7.holds Tryz.pinned (.plain (OpenSpec.ofChange condHoldsSpec)) condHoldsCard

/-- THE TIED CARD OF 'mastlaw2.ListWhere'. -/
def listWhereCard : Claim7 := { stood := { row := listWhereRow, standIns := [], harness := (true, "c310805a716e155bc4fb56aa149ab9e127f58287f246a465692566615408bdb5"), looks := true }, kinds := [], alts := [], laidByText := true, laidKinds := [.data, .data, .data, .data, .sentinel, .sentinel, .widerDeep, .pinned], laidTests := true, laidLooks := .later }
def ListWhereCardSaid : Prop := Claim7.holds Tryz.pinned (.plain (OpenSpec.ofChange listWhereSpec)) listWhereCard

/-- THE TIED CARD OF 'mastlaw2.ConfRemoves'. -/
def confRemovesCard : Claim7 := { stood := { row := confRemovesRow, standIns := [], harness := (true, "c310805a716e155bc4fb56aa149ab9e127f58287f246a465692566615408bdb5"), looks := true }, kinds := [], alts := [], laidByText := true, laidKinds := [.data, .data, .data, .data, .sentinel, .sentinel, .pinned], laidTests := true, laidLooks := .later }
def ConfRemovesCardSaid : Prop := Claim7.holds Tryz.pinned (.plain (OpenSpec.ofChange confRemovesSpec)) confRemovesCard

/-- THE TIED CARD OF 'mastlaw2.ListSorts'. -/
def listSortsCard : Claim7 := { stood := { row := listSortsRow, standIns := [], harness := (true, "c310805a716e155bc4fb56aa149ab9e127f58287f246a465692566615408bdb5"), looks := true }, kinds := [], alts := [], laidByText := true, laidKinds := [.data, .data, .data, .data, .sentinel, .sentinel, .pinned], laidTests := true, laidLooks := .later }
def ListSortsCardSaid : Prop := Claim7.holds Tryz.pinned (.plain (OpenSpec.ofChange listSortsSpec)) listSortsCard

/-- THE TIED CARD OF 'mastlaw2.CondWrites'. -/
def condWritesCard : Claim7 := { stood := { row := condWritesRow, standIns := [], harness := (true, "c310805a716e155bc4fb56aa149ab9e127f58287f246a465692566615408bdb5"), looks := true }, kinds := [], alts := [], laidByText := true, laidKinds := [.data, .data, .data, .data, .widerDeep, .widerDeep, .pinned], laidTests := true, laidLooks := .later }
def CondWritesCardSaid : Prop := Claim7.holds Tryz.pinned (.plain (OpenSpec.ofChange condWritesSpec)) condWritesCard

/-- THE TIED CARD OF 'mastlaw2.ConfSets'. -/
def confSetsCard : Claim7 := { stood := { row := confSetsRow, standIns := [], harness := (true, "c310805a716e155bc4fb56aa149ab9e127f58287f246a465692566615408bdb5"), looks := true }, kinds := [], alts := [], laidByText := true, laidKinds := [.data, .data, .data, .data, .sentinel, .sentinel, .pinned], laidTests := true, laidLooks := .later }
def ConfSetsCardSaid : Prop := Claim7.holds Tryz.pinned (.plain (OpenSpec.ofChange confSetsSpec)) confSetsCard

/-- THE SECOND FORM's CARD OF 'mastlaw2.CondHolds'. -/
def condHoldsUptoCard : Claim7 := { stood := { row := condHoldsUptoRow, standIns := [], harness := (true, "c310805a716e155bc4fb56aa149ab9e127f58287f246a465692566615408bdb5"), looks := true }, kinds := [], alts := [], laidByText := true, laidKinds := [.data, .data, .data, .data, .sentinel, .sentinel, .widerDeep, .pinned], laidTests := true, laidLooks := .later }
def CondHoldsUptoCardSaid : Prop := Claim7.holds Tryz.pinned (.plain (OpenSpec.upto condHoldsSpec)) condHoldsUptoCard

/-- THE SECOND FORM's CARD OF 'mastlaw2.ListWhere'. -/
def listWhereUptoCard : Claim7 := { stood := { row := listWhereUptoRow, standIns := [], harness := (true, "c310805a716e155bc4fb56aa149ab9e127f58287f246a465692566615408bdb5"), looks := true }, kinds := [], alts := [], laidByText := true, laidKinds := [.data, .data, .data, .data, .sentinel, .sentinel, .widerDeep, .pinned], laidTests := true, laidLooks := .later }
def ListWhereUptoCardSaid : Prop := Claim7.holds Tryz.pinned (.plain (OpenSpec.upto listWhereSpec)) listWhereUptoCard

/-- THE SECOND FORM's CARD OF 'mastlaw2.ConfRemoves'. -/
def confRemovesUptoCard : Claim7 := { stood := { row := confRemovesUptoRow, standIns := [], harness := (true, "c310805a716e155bc4fb56aa149ab9e127f58287f246a465692566615408bdb5"), looks := true }, kinds := [], alts := [], laidByText := true, laidKinds := [.data, .data, .data, .data, .sentinel, .sentinel, .pinned], laidTests := true, laidLooks := .later }
def ConfRemovesUptoCardSaid : Prop := Claim7.holds Tryz.pinned (.plain (OpenSpec.upto confRemovesSpec)) confRemovesUptoCard

/-- THE SECOND FORM's CARD OF 'mastlaw2.ListSorts'. -/
def listSortsUptoCard : Claim7 := { stood := { row := listSortsUptoRow, standIns := [], harness := (true, "c310805a716e155bc4fb56aa149ab9e127f58287f246a465692566615408bdb5"), looks := true }, kinds := [], alts := [], laidByText := true, laidKinds := [.data, .data, .data, .data, .sentinel, .sentinel, .pinned], laidTests := true, laidLooks := .later }
def ListSortsUptoCardSaid : Prop := Claim7.holds Tryz.pinned (.plain (OpenSpec.upto listSortsSpec)) listSortsUptoCard

/-- THE SECOND FORM's CARD OF 'mastlaw2.CondWrites'. -/
def condWritesUptoCard : Claim7 := { stood := { row := condWritesUptoRow, standIns := [], harness := (true, "c310805a716e155bc4fb56aa149ab9e127f58287f246a465692566615408bdb5"), looks := true }, kinds := [], alts := [], laidByText := true, laidKinds := [.data, .data, .data, .data, .widerDeep, .widerDeep, .pinned], laidTests := true, laidLooks := .later }
def CondWritesUptoCardSaid : Prop := Claim7.holds Tryz.pinned (.plain (OpenSpec.upto condWritesSpec)) condWritesUptoCard

/-- THE SECOND FORM's CARD OF 'mastlaw2.ConfSets'. -/
def confSetsUptoCard : Claim7 := { stood := { row := confSetsUptoRow, standIns := [], harness := (true, "c310805a716e155bc4fb56aa149ab9e127f58287f246a465692566615408bdb5"), looks := true }, kinds := [], alts := [], laidByText := true, laidKinds := [.data, .data, .data, .data, .sentinel, .sentinel, .pinned], laidTests := true, laidLooks := .later }
def ConfSetsUptoCardSaid : Prop := Claim7.holds Tryz.pinned (.plain (OpenSpec.upto confSetsSpec)) confSetsUptoCard
end Rows
end Go.Proofs.YtkjflkbjepdaaaaGreatDoor
