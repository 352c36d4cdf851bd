/-
  DERIVED. GIVEN WITH THE SEED: THE CARDS: each row of YteojgenhgjhohaaDoorRows.lean that lists a variable, with what it lists TIED to the program's text (the seventh form; the later family's looks); each row that meets fmt, with fmt's text TOLD by the authors' own Lean function (tested against real Go, not proved from fmt's source: count such statements apart). THE CARD IS WHAT COUNTS. Prove the row's statement (the work); the ties are given (YteojgenhgjhohaaDoorTie.lean); close each card by the builder's one call (the guide's Derived/Test/ToyasCard.lean, 'card_holds'). Laid BY PROGRAM, IN A SANDBOX (cutbox-door.mjs). By AI agents, Wed Nov 11 2026. No macro, syntax, notation, axiom, sorry.
-/
import Derived.Test.YteojgenhgjhohaaDoorRows
import GoSem.ClaimSeven
namespace Go.Proofs.YteojgenhgjhohaaDoor
namespace Rows

/-- THE TIED CARD OF 'mastlaw2.AssetNames'. -/
def assetNamesCard : Claim7 := { stood := { row := assetNamesRow, standIns := [], harness := (true, "1428b73bd4adcdb38c0bbfa713339190b82a55c4b15c24495a9c6fb85f97339a"), looks := false }, kinds := [], alts := [], laidByText := true, laidKinds := [.data, .data, .data, .data, .pinned], laidTests := true, laidLooks := .later }
def AssetNamesCardSaid : Prop := Claim7.holds Tryd.pinned (.plain (OpenSpec.ofChange assetNamesSpec)) assetNamesCard

/-- THE SECOND FORM's CARD OF 'mastlaw2.AssetNames'. -/
def assetNamesUptoCard : Claim7 := { stood := { row := assetNamesUptoRow, standIns := [], harness := (true, "1428b73bd4adcdb38c0bbfa713339190b82a55c4b15c24495a9c6fb85f97339a"), looks := false }, kinds := [], alts := [], laidByText := true, laidKinds := [.data, .data, .data, .data, .pinned], laidTests := true, laidLooks := .later }
def AssetNamesUptoCardSaid : Prop := Claim7.holds Tryd.pinned (.plain (OpenSpec.upto assetNamesSpec)) assetNamesUptoCard
end Rows
end Go.Proofs.YteojgenhgjhohaaDoor
