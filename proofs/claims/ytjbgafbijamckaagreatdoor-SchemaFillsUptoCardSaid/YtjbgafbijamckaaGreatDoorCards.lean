/-
  DERIVED. GIVEN WITH THE SEED: THE CARDS: each row of YtjbgafbijamckaaGreatDoorRows.lean that lists a variable, with what it lists TIED to the program's text (the seventh form; the later family's looks); each row that meets fmt, with fmt's text TOLD by the authors' own Lean function (tested against real Go, not proved from fmt's source: count such statements apart). THE CARD IS WHAT COUNTS. Prove the row's statement (the work); the ties are given (YtjbgafbijamckaaGreatDoorTie.lean); close each card by the builder's one call (the guide's Derived/Test/ToyasCard.lean, 'card_holds'). Laid BY PROGRAM, IN A SANDBOX (cutbox-door.mjs). By AI agents, Wed Nov 11 2026. No macro, syntax, notation, axiom, sorry.
-/
import Derived.Test.YtjbgafbijamckaaGreatDoorRows
import GoSem.ClaimSeven
namespace Go.Proofs.YtjbgafbijamckaaGreatDoor
namespace Rows

/-- THE TIED CARD OF 'mastlaw2.ConfSets'. -/
def confSetsCard : Claim7 := { stood := { row := confSetsRow, standIns := [], harness := (true, "f4023c13d7133399aaff2f88e1109818389f68e82e7f7a347710d51797c01125"), looks := true }, kinds := [], alts := [], laidByText := true, laidKinds := [.data, .data, .data, .data, .sentinel, .sentinel, .pinned], laidTests := true, laidLooks := .later }
def ConfSetsCardSaid : Prop := Claim7.holds Tryz.pinned (.plain (OpenSpec.ofChange confSetsSpec)) confSetsCard

/-- THE TIED CARD OF 'mastlaw2.ConfApplies'. -/
def confAppliesCard : Claim7 := { stood := { row := confAppliesRow, standIns := [], harness := (true, "f4023c13d7133399aaff2f88e1109818389f68e82e7f7a347710d51797c01125"), looks := true }, kinds := [], alts := [], laidByText := true, laidKinds := [.data, .data, .data, .data, .sentinel, .sentinel, .pinned], laidTests := true, laidLooks := .later }
def ConfAppliesCardSaid : Prop := Claim7.holds Tryz.pinned (.plain (OpenSpec.ofChange confAppliesSpec)) confAppliesCard

/-- THE TIED CARD OF 'mastlaw2.SchemaFills'. -/
def schemaFillsCard : Claim7 := { stood := { row := schemaFillsRow, standIns := [], harness := (true, "f4023c13d7133399aaff2f88e1109818389f68e82e7f7a347710d51797c01125"), looks := true }, kinds := [], alts := [], laidByText := true, laidKinds := [.data, .data, .data, .data, .sentinel, .sentinel, .pinned], laidTests := true, laidLooks := .later }
def SchemaFillsCardSaid : Prop := Claim7.holds Tryz.pinned (.plain (OpenSpec.ofChange schemaFillsSpec)) schemaFillsCard

/-- THE SECOND FORM's CARD OF 'mastlaw2.ConfSets'. -/
def confSetsUptoCard : Claim7 := { stood := { row := confSetsUptoRow, standIns := [], harness := (true, "f4023c13d7133399aaff2f88e1109818389f68e82e7f7a347710d51797c01125"), looks := true }, kinds := [], alts := [], laidByText := true, laidKinds := [.data, .data, .data, .data, .sentinel, .sentinel, .pinned], laidTests := true, laidLooks := .later }
def ConfSetsUptoCardSaid : Prop := Claim7.holds Tryz.pinned (.plain (OpenSpec.upto confSetsSpec)) confSetsUptoCard

/-- THE SECOND FORM's CARD OF 'mastlaw2.ConfApplies'. -/
def confAppliesUptoCard : Claim7 := { stood := { row := confAppliesUptoRow, standIns := [], harness := (true, "f4023c13d7133399aaff2f88e1109818389f68e82e7f7a347710d51797c01125"), looks := true }, kinds := [], alts := [], laidByText := true, laidKinds := [.data, .data, .data, .data, .sentinel, .sentinel, .pinned], laidTests := true, laidLooks := .later }
def ConfAppliesUptoCardSaid : Prop := Claim7.holds Tryz.pinned (.plain (OpenSpec.upto confAppliesSpec)) confAppliesUptoCard

/-- THE SECOND FORM's CARD OF 'mastlaw2.SchemaFills'. -/
def schemaFillsUptoCard : Claim7 := { stood := { row := schemaFillsUptoRow, standIns := [], harness := (true, "f4023c13d7133399aaff2f88e1109818389f68e82e7f7a347710d51797c01125"), looks := true }, kinds := [], alts := [], laidByText := true, laidKinds := [.data, .data, .data, .data, .sentinel, .sentinel, .pinned], laidTests := true, laidLooks := .later }
def SchemaFillsUptoCardSaid : Prop := Claim7.holds Tryz.pinned (.plain (OpenSpec.upto schemaFillsSpec)) schemaFillsUptoCard
end Rows
end Go.Proofs.YtjbgafbijamckaaGreatDoor
