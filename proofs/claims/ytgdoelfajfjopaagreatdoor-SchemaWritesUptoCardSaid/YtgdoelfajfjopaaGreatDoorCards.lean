/-
  DERIVED. GIVEN WITH THE SEED: THE CARDS: each row of YtgdoelfajfjopaaGreatDoorRows.lean that lists a variable, with what it lists TIED to the program's text (the seventh form; the later family's looks); each row that meets fmt, with fmt's text TOLD by the authors' own Lean function (tested against real Go, not proved from fmt's source: count such statements apart). THE CARD IS WHAT COUNTS. Prove the row's statement (the work); the ties are given (YtgdoelfajfjopaaGreatDoorTie.lean); close each card by the builder's one call (the guide's Derived/Test/ToyasCard.lean, 'card_holds'). Laid BY PROGRAM, IN A SANDBOX (cutbox-door.mjs). By AI agents, Wed Nov 11 2026. No macro, syntax, notation, axiom, sorry.
-/
import Derived.Test.YtgdoelfajfjopaaGreatDoorRows
import GoSem.ClaimSeven
namespace Go.Proofs.YtgdoelfajfjopaaGreatDoor
namespace Rows

/-- THE TIED CARD OF 'mastlaw2.ConfDiffs'. -/
def confDiffsCard : Claim7 := { stood := { row := confDiffsRow, standIns := [], harness := (true, "8306a97d53f036047c318454b99d22e75b548c95218133c9bf1c9aaad95f1011"), looks := true }, kinds := [], alts := [], laidByText := true, laidKinds := [.data, .pinned], laidTests := true, laidLooks := .later }
def ConfDiffsCardSaid : Prop := Claim7.holds Tryz.pinned (.plain (OpenSpec.ofChange confDiffsSpec)) confDiffsCard

/-- THE TIED CARD OF 'mastlaw2.SchemaWrites'. -/
def schemaWritesCard : Claim7 := { stood := { row := schemaWritesRow, standIns := [], harness := (true, "8306a97d53f036047c318454b99d22e75b548c95218133c9bf1c9aaad95f1011"), looks := true }, kinds := [], alts := [], laidByText := true, laidKinds := [.data, .data, .data, .data, .sentinel, .sentinel, .data, .widerDeep, .pinned], laidTests := true, laidLooks := .later }
def SchemaWritesCardSaid : Prop := Claim7.holds Tryz.pinned (.plain (OpenSpec.ofChange schemaWritesSpec)) schemaWritesCard

/-- THE SECOND FORM's CARD OF 'mastlaw2.ConfDiffs'. -/
def confDiffsUptoCard : Claim7 := { stood := { row := confDiffsUptoRow, standIns := [], harness := (true, "8306a97d53f036047c318454b99d22e75b548c95218133c9bf1c9aaad95f1011"), looks := true }, kinds := [], alts := [], laidByText := true, laidKinds := [.data, .pinned], laidTests := true, laidLooks := .later }
def ConfDiffsUptoCardSaid : Prop := Claim7.holds Tryz.pinned (.plain (OpenSpec.upto confDiffsSpec)) confDiffsUptoCard

/-- THE SECOND FORM's CARD OF 'mastlaw2.SchemaWrites'. -/
def schemaWritesUptoCard : Claim7 := { stood := { row := schemaWritesUptoRow, standIns := [], harness := (true, "8306a97d53f036047c318454b99d22e75b548c95218133c9bf1c9aaad95f1011"), looks := true }, kinds := [], alts := [], laidByText := true, laidKinds := [.data, .data, .data, .data, .sentinel, .sentinel, .data, .widerDeep, .pinned], laidTests := true, laidLooks := .later }
def SchemaWritesUptoCardSaid : Prop := Claim7.holds Tryz.pinned (.plain (OpenSpec.upto schemaWritesSpec)) schemaWritesUptoCard
end Rows
end Go.Proofs.YtgdoelfajfjopaaGreatDoor
