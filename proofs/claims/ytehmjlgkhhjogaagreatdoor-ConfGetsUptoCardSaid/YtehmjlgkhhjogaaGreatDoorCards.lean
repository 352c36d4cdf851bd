/-
  DERIVED. GIVEN WITH THE SEED: THE CARDS: each row of YtehmjlgkhhjogaaGreatDoorRows.lean that lists a variable, with what it lists TIED to the program's text (the seventh form; the later family's looks); each row that meets fmt, with fmt's text TOLD by the authors' own Lean function (tested against real Go, not proved from fmt's source: count such statements apart). THE CARD IS WHAT COUNTS. Prove the row's statement (the work); the ties are given (YtehmjlgkhhjogaaGreatDoorTie.lean); close each card by the builder's one call (the guide's Derived/Test/ToyasCard.lean, 'card_holds'). Laid BY PROGRAM, IN A SANDBOX (cutbox-door.mjs). By AI agents, Wed Nov 11 2026. No macro, syntax, notation, axiom, sorry.
-/
import Derived.Test.YtehmjlgkhhjogaaGreatDoorRows
import GoSem.ClaimSeven
namespace Go.Proofs.YtehmjlgkhhjogaaGreatDoor
namespace Rows

/-- THE TIED CARD OF 'mastlaw2.ConfGets'. -/
def confGetsCard : Claim7 := { stood := { row := confGetsRow, standIns := [], harness := (true, "b20779157928aad1ca9ac48091dcd8ad71b7b97bd7e062ac16a2a911cd3d4c85"), looks := true }, kinds := [], alts := [], laidByText := true, laidKinds := [.data, .data, .data, .data, .sentinel, .sentinel, .pinned], laidTests := true, laidLooks := .later }
def ConfGetsCardSaid : Prop := Claim7.holds Tryz.pinned (.plain (OpenSpec.ofChange confGetsSpec)) confGetsCard

/-- THE TIED CARD OF 'mastlaw2.ConfRemoves'. -/
def confRemovesCard : Claim7 := { stood := { row := confRemovesRow, standIns := [], harness := (true, "b20779157928aad1ca9ac48091dcd8ad71b7b97bd7e062ac16a2a911cd3d4c85"), looks := true }, kinds := [], alts := [], laidByText := true, laidKinds := [.data, .data, .data, .data, .sentinel, .sentinel, .pinned], laidTests := true, laidLooks := .later }
def ConfRemovesCardSaid : Prop := Claim7.holds Tryz.pinned (.plain (OpenSpec.ofChange confRemovesSpec)) confRemovesCard

/-- THE TIED CARD OF 'mastlaw2.ConfSets'. -/
def confSetsCard : Claim7 := { stood := { row := confSetsRow, standIns := [], harness := (true, "b20779157928aad1ca9ac48091dcd8ad71b7b97bd7e062ac16a2a911cd3d4c85"), looks := true }, kinds := [], alts := [], laidByText := true, laidKinds := [.data, .data, .data, .data, .sentinel, .sentinel, .pinned], laidTests := true, laidLooks := .later }
def ConfSetsCardSaid : Prop := Claim7.holds Tryz.pinned (.plain (OpenSpec.ofChange confSetsSpec)) confSetsCard

/-- THE SECOND FORM's CARD OF 'mastlaw2.ConfGets'. -/
def confGetsUptoCard : Claim7 := { stood := { row := confGetsUptoRow, standIns := [], harness := (true, "b20779157928aad1ca9ac48091dcd8ad71b7b97bd7e062ac16a2a911cd3d4c85"), looks := true }, kinds := [], alts := [], laidByText := true, laidKinds := [.data, .data, .data, .data, .sentinel, .sentinel, .pinned], laidTests := true, laidLooks := .later }
def ConfGetsUptoCardSaid : Prop := Claim7.holds Tryz.pinned (.plain (OpenSpec.upto confGetsSpec)) confGetsUptoCard

/-- THE SECOND FORM's CARD OF 'mastlaw2.ConfRemoves'. -/
def confRemovesUptoCard : Claim7 := { stood := { row := confRemovesUptoRow, standIns := [], harness := (true, "b20779157928aad1ca9ac48091dcd8ad71b7b97bd7e062ac16a2a911cd3d4c85"), looks := true }, kinds := [], alts := [], laidByText := true, laidKinds := [.data, .data, .data, .data, .sentinel, .sentinel, .pinned], laidTests := true, laidLooks := .later }
def ConfRemovesUptoCardSaid : Prop := Claim7.holds Tryz.pinned (.plain (OpenSpec.upto confRemovesSpec)) confRemovesUptoCard

/-- THE SECOND FORM's CARD OF 'mastlaw2.ConfSets'. -/
def confSetsUptoCard : Claim7 := { stood := { row := confSetsUptoRow, standIns := [], harness := (true, "b20779157928aad1ca9ac48091dcd8ad71b7b97bd7e062ac16a2a911cd3d4c85"), looks := true }, kinds := [], alts := [], laidByText := true, laidKinds := [.data, .data, .data, .data, .sentinel, .sentinel, .pinned], laidTests := true, laidLooks := .later }
def ConfSetsUptoCardSaid : Prop := Claim7.holds Tryz.pinned (.plain (OpenSpec.upto confSetsSpec)) confSetsUptoCard
end Rows
end Go.Proofs.YtehmjlgkhhjogaaGreatDoor
