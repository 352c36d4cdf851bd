/-
  DERIVED. GIVEN WITH THE SEED: THE CARDS: each row of YtocehfhhmljejaaGreatDoorRows.lean that lists a variable, with what it lists TIED to the program's text (the seventh form; the later family's looks); each row that meets fmt, with fmt's text TOLD by the authors' own Lean function (tested against real Go, not proved from fmt's source: count such statements apart). THE CARD IS WHAT COUNTS. Prove the row's statement (the work); the ties are given (YtocehfhhmljejaaGreatDoorTie.lean); close each card by the builder's one call (the guide's Derived/Test/ToyasCard.lean, 'card_holds'). Laid BY PROGRAM, IN A SANDBOX (cutbox-door.mjs). By AI agents, Wed Nov 11 2026. No macro, syntax, notation, axiom, sorry.
-/
import Derived.Test.YtocehfhhmljejaaGreatDoorRows
import GoSem.ClaimSeven
namespace Go.Proofs.YtocehfhhmljejaaGreatDoor
namespace Rows

/-- THE TIED CARD OF 'mastlaw2.ConfDiffs'. -/
def confDiffsCard : Claim7 := { stood := { row := confDiffsRow, standIns := [], harness := (true, "48c0730ccf2652c2c6c00c4f37b5bad1b03f008a8347c3a4c0f20584c449bc43"), looks := true }, kinds := [], alts := [], laidByText := true, laidKinds := [.data, .pinned], laidTests := true, laidLooks := .later }
def ConfDiffsCardSaid : Prop := Claim7.holds Tryz.pinned (.plain (OpenSpec.ofChange confDiffsSpec)) confDiffsCard

/-- THE SECOND FORM's CARD OF 'mastlaw2.ConfDiffs'. -/
def confDiffsUptoCard : Claim7 := { stood := { row := confDiffsUptoRow, standIns := [], harness := (true, "48c0730ccf2652c2c6c00c4f37b5bad1b03f008a8347c3a4c0f20584c449bc43"), looks := true }, kinds := [], alts := [], laidByText := true, laidKinds := [.data, .pinned], laidTests := true, laidLooks := .later }
def ConfDiffsUptoCardSaid : Prop := Claim7.holds Tryz.pinned (.plain (OpenSpec.upto confDiffsSpec)) confDiffsUptoCard
end Rows
end Go.Proofs.YtocehfhhmljejaaGreatDoor
