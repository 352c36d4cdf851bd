/-
  DERIVED. GIVEN WITH THE SEED: THE CARDS: each row of YtndlgoklgclmjaaDoorRows.lean that lists a variable, with what it lists TIED to the program's text (the seventh form; the later family's looks); each row that meets fmt, with fmt's text TOLD by the authors' own Lean function (tested against real Go, not proved from fmt's source: count such statements apart). THE CARD IS WHAT COUNTS. Prove the row's statement (the work); the ties are given (YtndlgoklgclmjaaDoorTie.lean); close each card by the builder's one call (the guide's Derived/Test/ToyasCard.lean, 'card_holds'). Laid BY PROGRAM, IN A SANDBOX (cutbox-door.mjs). By AI agents, Wed Nov 11 2026. No macro, syntax, notation, axiom, sorry.
-/
import Derived.Test.YtndlgoklgclmjaaDoorRows
import GoSem.ClaimSeven
namespace Go.Proofs.YtndlgoklgclmjaaDoor
namespace Rows

/-- THE TIED CARD OF 'mastlaw2.ConfMerges'. -/
def confMergesCard : Claim7 := { stood := { row := confMergesRow, standIns := [], harness := (true, "19b735657b419b1a4d36fb3e2cf3397b4db7f6384b41cb65a873162f7c658b25"), looks := false }, kinds := [], alts := [], laidByText := true, laidKinds := [.data, .pinned], laidTests := true, laidLooks := .later }
def ConfMergesCardSaid : Prop := Claim7.holds Tryd.pinned (.plain (OpenSpec.ofChange confMergesSpec)) confMergesCard

/-- THE SECOND FORM's CARD OF 'mastlaw2.ConfMerges'. -/
def confMergesUptoCard : Claim7 := { stood := { row := confMergesUptoRow, standIns := [], harness := (true, "19b735657b419b1a4d36fb3e2cf3397b4db7f6384b41cb65a873162f7c658b25"), looks := false }, kinds := [], alts := [], laidByText := true, laidKinds := [.data, .pinned], laidTests := true, laidLooks := .later }
def ConfMergesUptoCardSaid : Prop := Claim7.holds Tryd.pinned (.plain (OpenSpec.upto confMergesSpec)) confMergesUptoCard
end Rows
end Go.Proofs.YtndlgoklgclmjaaDoor
