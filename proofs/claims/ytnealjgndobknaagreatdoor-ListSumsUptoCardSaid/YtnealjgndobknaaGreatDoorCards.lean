/-
  DERIVED. GIVEN WITH THE SEED: THE CARDS: each row of YtnealjgndobknaaGreatDoorRows.lean that lists a variable, with what it lists TIED to the program's text (the seventh form; the later family's looks); each row that meets fmt, with fmt's text TOLD by the authors' own Lean function (tested against real Go, not proved from fmt's source: count such statements apart). THE CARD IS WHAT COUNTS. Prove the row's statement (the work); the ties are given (YtnealjgndobknaaGreatDoorTie.lean); close each card by the builder's one call (the guide's Derived/Test/ToyasCard.lean, 'card_holds'). Laid BY PROGRAM, IN A SANDBOX (cutbox-door.mjs). By AI agents, Wed Nov 11 2026. No macro, syntax, notation, axiom, sorry.
-/
import Derived.Test.YtnealjgndobknaaGreatDoorRows
import GoSem.ClaimSeven
namespace Go.Proofs.YtnealjgndobknaaGreatDoor
namespace Rows

/-- THE TIED CARD OF 'mastlaw2.ListSums'. -/
def listSumsCard : Claim7 := { stood := { row := listSumsRow, standIns := [], harness := (true, "fd80a5f659d05c10e2c6ff428aa284c7e20f45a50da971799a245eab93169f42"), looks := true }, kinds := [], alts := [], laidByText := true, laidKinds := [.data, .data, .data, .data, .sentinel, .sentinel, .pinned], laidTests := true, laidLooks := .later }
def ListSumsCardSaid : Prop := Claim7.holds Tryz.pinned (.plain (OpenSpec.ofChange listSumsSpec)) listSumsCard

/-- THE TIED CARD OF 'mastlaw2.CondHolds'. -/
def condHoldsCard : Claim7 := { stood := { row := condHoldsRow, standIns := [], harness := (true, "fd80a5f659d05c10e2c6ff428aa284c7e20f45a50da971799a245eab93169f42"), looks := true }, kinds := [], alts := [], laidByText := true, laidKinds := [.data, .data, .data, .data, .sentinel, .sentinel, .widerDeep, .pinned], laidTests := true, laidLooks := .later }
def CondHoldsCardSaid : Prop := Claim7.holds Tryz.pinned (.plain (OpenSpec.ofChange condHoldsSpec)) condHoldsCard

/-- THE TIED CARD OF 'mastlaw2.ListWhere'. -/
def listWhereCard : Claim7 := { stood := { row := listWhereRow, standIns := [], harness := (true, "fd80a5f659d05c10e2c6ff428aa284c7e20f45a50da971799a245eab93169f42"), looks := true }, kinds := [], alts := [], laidByText := true, laidKinds := [.data, .data, .data, .data, .sentinel, .sentinel, .widerDeep, .pinned], laidTests := true, laidLooks := .later }
def ListWhereCardSaid : Prop := Claim7.holds Tryz.pinned (.plain (OpenSpec.ofChange listWhereSpec)) listWhereCard

/-- THE SECOND FORM's CARD OF 'mastlaw2.ListSums'. -/
def listSumsUptoCard : Claim7 := { stood := { row := listSumsUptoRow, standIns := [], harness := (true, "fd80a5f659d05c10e2c6ff428aa284c7e20f45a50da971799a245eab93169f42"), looks := true }, kinds := [], alts := [], laidByText := true, laidKinds := [.data, .data, .data, .data, .sentinel, .sentinel, .pinned], laidTests := true, laidLooks := .later }
def ListSumsUptoCardSaid : Prop := Claim7.holds Tryz.pinned (.plain (OpenSpec.upto listSumsSpec)) listSumsUptoCard

/-- THE SECOND FORM's CARD OF 'mastlaw2.CondHolds'. -/
def condHoldsUptoCard : Claim7 := { stood := { row := condHoldsUptoRow, standIns := [], harness := (true, "fd80a5f659d05c10e2c6ff428aa284c7e20f45a50da971799a245eab93169f42"), looks := true }, kinds := [], alts := [], laidByText := true, laidKinds := [.data, .data, .data, .data, .sentinel, .sentinel, .widerDeep, .pinned], laidTests := true, laidLooks := .later }
def CondHoldsUptoCardSaid : Prop := Claim7.holds Tryz.pinned (.plain (OpenSpec.upto condHoldsSpec)) condHoldsUptoCard

/-- THE SECOND FORM's CARD OF 'mastlaw2.ListWhere'. -/
def listWhereUptoCard : Claim7 := { stood := { row := listWhereUptoRow, standIns := [], harness := (true, "fd80a5f659d05c10e2c6ff428aa284c7e20f45a50da971799a245eab93169f42"), looks := true }, kinds := [], alts := [], laidByText := true, laidKinds := [.data, .data, .data, .data, .sentinel, .sentinel, .widerDeep, .pinned], laidTests := true, laidLooks := .later }
def ListWhereUptoCardSaid : Prop := Claim7.holds Tryz.pinned (.plain (OpenSpec.upto listWhereSpec)) listWhereUptoCard
end Rows
end Go.Proofs.YtnealjgndobknaaGreatDoor
