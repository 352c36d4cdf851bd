/-
  DERIVED. GIVEN WITH THE SEED: THE CARDS: each row of YtilfmjldcigagaaGreatDoorRows.lean that lists a variable, with what it lists TIED to the program's text (the seventh form; the later family's looks); each row that meets fmt, with fmt's text TOLD by the authors' own Lean function (tested against real Go, not proved from fmt's source: count such statements apart). THE CARD IS WHAT COUNTS. Prove the row's statement (the work); the ties are given (YtilfmjldcigagaaGreatDoorTie.lean); close each card by the builder's one call (the guide's Derived/Test/ToyasCard.lean, 'card_holds'). Laid BY PROGRAM, IN A SANDBOX (cutbox-door.mjs). By AI agents, Wed Nov 11 2026. No macro, syntax, notation, axiom, sorry.
-/
import Derived.Test.YtilfmjldcigagaaGreatDoorRows
import GoSem.ClaimSeven
namespace Go.Proofs.YtilfmjldcigagaaGreatDoor
namespace Rows

/-- THE TIED CARD OF 'mastlaw2.SchemaReads'. -/
def schemaReadsCard : Claim7 := { stood := { row := schemaReadsRow, standIns := [], harness := (true, "e6367d99877563d4fc5f264cd5523ad0ba84e52c280440251599c911b77a6b8d"), looks := true }, kinds := [], alts := [], laidByText := true, laidKinds := [.data, .data, .data, .data, .sentinel, .sentinel, .data, .widerDeep, .pinned], laidTests := true, laidLooks := .later }
def SchemaReadsCardSaid : Prop := Claim7.holds Tryz.pinned (.plain (OpenSpec.ofChange schemaReadsSpec)) schemaReadsCard

/-- THE TIED CARD OF 'mastlaw2.SchemaFaults'. -/
def schemaFaultsCard : Claim7 := { stood := { row := schemaFaultsRow, standIns := [], harness := (true, "e6367d99877563d4fc5f264cd5523ad0ba84e52c280440251599c911b77a6b8d"), looks := true }, kinds := [], alts := [], laidByText := true, laidKinds := [.data, .data, .data, .data, .sentinel, .sentinel, .pinned], laidTests := true, laidLooks := .later }
def SchemaFaultsCardSaid : Prop := Claim7.holds Tryz.pinned (.plain (OpenSpec.ofChange schemaFaultsSpec)) schemaFaultsCard

/-- THE SECOND FORM's CARD OF 'mastlaw2.SchemaReads'. -/
def schemaReadsUptoCard : Claim7 := { stood := { row := schemaReadsUptoRow, standIns := [], harness := (true, "e6367d99877563d4fc5f264cd5523ad0ba84e52c280440251599c911b77a6b8d"), looks := true }, kinds := [], alts := [], laidByText := true, laidKinds := [.data, .data, .data, .data, .sentinel, .sentinel, .data, .widerDeep, .pinned], laidTests := true, laidLooks := .later }
def SchemaReadsUptoCardSaid : Prop := Claim7.holds Tryz.pinned (.plain (OpenSpec.upto schemaReadsSpec)) schemaReadsUptoCard

/-- THE SECOND FORM's CARD OF 'mastlaw2.SchemaFaults'. -/
def schemaFaultsUptoCard : Claim7 := { stood := { row := schemaFaultsUptoRow, standIns := [], harness := (true, "e6367d99877563d4fc5f264cd5523ad0ba84e52c280440251599c911b77a6b8d"), looks := true }, kinds := [], alts := [], laidByText := true, laidKinds := [.data, .data, .data, .data, .sentinel, .sentinel, .pinned], laidTests := true, laidLooks := .later }
def SchemaFaultsUptoCardSaid : Prop := Claim7.holds Tryz.pinned (.plain (OpenSpec.upto schemaFaultsSpec)) schemaFaultsUptoCard
end Rows
end Go.Proofs.YtilfmjldcigagaaGreatDoor
