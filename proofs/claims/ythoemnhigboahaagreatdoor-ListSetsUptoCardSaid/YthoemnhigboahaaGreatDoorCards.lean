/-
  DERIVED. GIVEN WITH THE SEED: THE CARDS: each row of YthoemnhigboahaaGreatDoorRows.lean that lists a variable, with what it lists TIED to the program's text (the seventh form; the later family's looks); each row that meets fmt, with fmt's text TOLD by the authors' own Lean function (tested against real Go, not proved from fmt's source: count such statements apart). THE CARD IS WHAT COUNTS. Prove the row's statement (the work); the ties are given (YthoemnhigboahaaGreatDoorTie.lean); close each card by the builder's one call (the guide's Derived/Test/ToyasCard.lean, 'card_holds'). Laid BY PROGRAM, IN A SANDBOX (cutbox-door.mjs). By AI agents, Wed Nov 11 2026. No macro, syntax, notation, axiom, sorry.
-/
import Derived.Test.YthoemnhigboahaaGreatDoorRows
import GoSem.ClaimSeven
namespace Go.Proofs.YthoemnhigboahaaGreatDoor
namespace Rows

/-- THE TIED CARD OF 'mastlaw2.ListSets'. -/
def listSetsCard : Claim7 := { stood := { row := listSetsRow, standIns := [], harness := (true, "5faddcb25ccbabc50fe5ec0c59bd02dc88b331339dc1da4477cd7a455409a89a"), looks := true }, kinds := [], alts := [], laidByText := true, laidKinds := [.data, .pinned], laidTests := true, laidLooks := .later }
def ListSetsCardSaid : Prop := Claim7.holds Tryz.pinned (.plain (OpenSpec.ofChange listSetsSpec)) listSetsCard

/-- THE TIED CARD OF 'mastlaw2.ListSorts'. -/
def listSortsCard : Claim7 := { stood := { row := listSortsRow, standIns := [], harness := (true, "5faddcb25ccbabc50fe5ec0c59bd02dc88b331339dc1da4477cd7a455409a89a"), looks := true }, kinds := [], alts := [], laidByText := true, laidKinds := [.data, .data, .data, .data, .sentinel, .sentinel, .pinned], laidTests := true, laidLooks := .later }
def ListSortsCardSaid : Prop := Claim7.holds Tryz.pinned (.plain (OpenSpec.ofChange listSortsSpec)) listSortsCard

/-- THE SECOND FORM's CARD OF 'mastlaw2.ListSets'. -/
def listSetsUptoCard : Claim7 := { stood := { row := listSetsUptoRow, standIns := [], harness := (true, "5faddcb25ccbabc50fe5ec0c59bd02dc88b331339dc1da4477cd7a455409a89a"), looks := true }, kinds := [], alts := [], laidByText := true, laidKinds := [.data, .pinned], laidTests := true, laidLooks := .later }
def ListSetsUptoCardSaid : Prop := Claim7.holds Tryz.pinned (.plain (OpenSpec.upto listSetsSpec)) listSetsUptoCard

/-- THE SECOND FORM's CARD OF 'mastlaw2.ListSorts'. -/
def listSortsUptoCard : Claim7 := { stood := { row := listSortsUptoRow, standIns := [], harness := (true, "5faddcb25ccbabc50fe5ec0c59bd02dc88b331339dc1da4477cd7a455409a89a"), looks := true }, kinds := [], alts := [], laidByText := true, laidKinds := [.data, .data, .data, .data, .sentinel, .sentinel, .pinned], laidTests := true, laidLooks := .later }
def ListSortsUptoCardSaid : Prop := Claim7.holds Tryz.pinned (.plain (OpenSpec.upto listSortsSpec)) listSortsUptoCard
end Rows
end Go.Proofs.YthoemnhigboahaaGreatDoor
