/-
  DERIVED. GIVEN WITH THE SEED: THE CARDS: each row of YtehmjlgkhhjogaaDoorRows.lean that lists a variable, with what it lists TIED to the program's text (the seventh form; the later family's looks); each row that meets fmt, with fmt's text TOLD by the authors' own Lean function (tested against real Go, not proved from fmt's source: count such statements apart). THE CARD IS WHAT COUNTS. Prove the row's statement (the work); the ties are given (YtehmjlgkhhjogaaDoorTie.lean); close each card by the builder's one call (the guide's Derived/Test/ToyasCard.lean, 'card_holds'). Laid BY PROGRAM, IN A SANDBOX (cutbox-door.mjs). By AI agents, Wed Nov 11 2026. No macro, syntax, notation, axiom, sorry.
-/
import Derived.Test.YtehmjlgkhhjogaaDoorRows
import GoSem.ClaimSeven
namespace Go.Proofs.YtehmjlgkhhjogaaDoor
namespace Rows

/-- THE TIED CARD OF 'mastlaw2.ListItems'. -/
def listItemsCard : Claim7 := { stood := { row := listItemsRow, standIns := [], harness := (true, "79d21687d8b414705a65f08cf1ddd693563ae51f16c791c8d7d3be63d2a365ac"), looks := true }, kinds := [], alts := [], laidByText := true, laidKinds := [.data, .pinned], laidTests := true, laidLooks := .later }
def ListItemsCardSaid : Prop := Claim7.holds Tryd.pinned (.plain (OpenSpec.ofChange listItemsSpec)) listItemsCard

/-- THE TIED CARD OF 'mastlaw2.ConfMerges'. -/
def confMergesCard : Claim7 := { stood := { row := confMergesRow, standIns := [], harness := (true, "79d21687d8b414705a65f08cf1ddd693563ae51f16c791c8d7d3be63d2a365ac"), looks := true }, kinds := [], alts := [], laidByText := true, laidKinds := [.data, .pinned], laidTests := true, laidLooks := .later }
def ConfMergesCardSaid : Prop := Claim7.holds Tryd.pinned (.plain (OpenSpec.ofChange confMergesSpec)) confMergesCard

/-- THE TIED CARD OF 'mastlaw2.SchemaChecks'. -/
def schemaChecksCard : Claim7 := { stood := { row := schemaChecksRow, standIns := [], harness := (true, "79d21687d8b414705a65f08cf1ddd693563ae51f16c791c8d7d3be63d2a365ac"), looks := true }, kinds := [], alts := [], laidByText := true, laidKinds := [.data, .data, .data, .data, .sentinel, .sentinel, .pinned], laidTests := true, laidLooks := .later }
def SchemaChecksCardSaid : Prop := Claim7.holds Tryd.pinned (.plain (OpenSpec.ofChange schemaChecksSpec)) schemaChecksCard

/-- THE TIED CARD OF 'mastlaw2.DayReads'. -/
def dayReadsCard : Claim7 := { stood := { row := dayReadsRow, standIns := [], harness := (true, "79d21687d8b414705a65f08cf1ddd693563ae51f16c791c8d7d3be63d2a365ac"), looks := true }, kinds := [], alts := [], laidByText := true, laidKinds := [.data, .data, .data, .data, .sentinel, .sentinel, .pinned], laidTests := true, laidLooks := .later }
def DayReadsCardSaid : Prop := Claim7.holds Tryd.pinned (.plain (OpenSpec.ofChange dayReadsSpec)) dayReadsCard

/-- THE SECOND FORM's CARD OF 'mastlaw2.ListItems'. -/
def listItemsUptoCard : Claim7 := { stood := { row := listItemsUptoRow, standIns := [], harness := (true, "79d21687d8b414705a65f08cf1ddd693563ae51f16c791c8d7d3be63d2a365ac"), looks := true }, kinds := [], alts := [], laidByText := true, laidKinds := [.data, .pinned], laidTests := true, laidLooks := .later }
def ListItemsUptoCardSaid : Prop := Claim7.holds Tryd.pinned (.plain (OpenSpec.upto listItemsSpec)) listItemsUptoCard

/-- THE SECOND FORM's CARD OF 'mastlaw2.ConfMerges'. -/
def confMergesUptoCard : Claim7 := { stood := { row := confMergesUptoRow, standIns := [], harness := (true, "79d21687d8b414705a65f08cf1ddd693563ae51f16c791c8d7d3be63d2a365ac"), looks := true }, kinds := [], alts := [], laidByText := true, laidKinds := [.data, .pinned], laidTests := true, laidLooks := .later }
def ConfMergesUptoCardSaid : Prop := Claim7.holds Tryd.pinned (.plain (OpenSpec.upto confMergesSpec)) confMergesUptoCard

/-- THE SECOND FORM's CARD OF 'mastlaw2.SchemaChecks'. -/
def schemaChecksUptoCard : Claim7 := { stood := { row := schemaChecksUptoRow, standIns := [], harness := (true, "79d21687d8b414705a65f08cf1ddd693563ae51f16c791c8d7d3be63d2a365ac"), looks := true }, kinds := [], alts := [], laidByText := true, laidKinds := [.data, .data, .data, .data, .sentinel, .sentinel, .pinned], laidTests := true, laidLooks := .later }
def SchemaChecksUptoCardSaid : Prop := Claim7.holds Tryd.pinned (.plain (OpenSpec.upto schemaChecksSpec)) schemaChecksUptoCard

/-- THE SECOND FORM's CARD OF 'mastlaw2.DayReads'. -/
def dayReadsUptoCard : Claim7 := { stood := { row := dayReadsUptoRow, standIns := [], harness := (true, "79d21687d8b414705a65f08cf1ddd693563ae51f16c791c8d7d3be63d2a365ac"), looks := true }, kinds := [], alts := [], laidByText := true, laidKinds := [.data, .data, .data, .data, .sentinel, .sentinel, .pinned], laidTests := true, laidLooks := .later }
def DayReadsUptoCardSaid : Prop := Claim7.holds Tryd.pinned (.plain (OpenSpec.upto dayReadsSpec)) dayReadsUptoCard
end Rows
end Go.Proofs.YtehmjlgkhhjogaaDoor
