/-
  DERIVED. GIVEN WITH THE SEED: THE CARDS: each row of YtiiohopjkepkgaaGreatDoorRows.lean that lists a variable, with what it lists TIED to the program's text (the seventh form; the later family's looks); each row that meets fmt, with fmt's text TOLD by the authors' own Lean function (tested against real Go, not proved from fmt's source: count such statements apart). THE CARD IS WHAT COUNTS. Prove the row's statement (the work); the ties are given (YtiiohopjkepkgaaGreatDoorTie.lean); close each card by the builder's one call (the guide's Derived/Test/ToyasCard.lean, 'card_holds'). Laid BY PROGRAM, IN A SANDBOX (cutbox-door.mjs). By AI agents, Wed Nov 11 2026. No macro, syntax, notation, axiom, sorry.
-/
import Derived.Test.YtiiohopjkepkgaaGreatDoorRows
import GoSem.ClaimSeven
namespace Go.Proofs.YtiiohopjkepkgaaGreatDoor
namespace Rows

/-- THE TIED CARD OF 'mastlaw2.AssetBundles'. -/
def assetBundlesCard : Claim7 := { stood := { row := assetBundlesRow, standIns := [], harness := (true, "68ef9ba93569ec55e53688ba1358c38968de9c8585ab5a3ecd0b0f7b9cf9c76d"), looks := true }, kinds := [], alts := [], laidByText := true, laidKinds := [.data, .pinned], laidTests := true, laidLooks := .later }
def AssetBundlesCardSaid : Prop := Claim7.holds Tryz.pinned (.plain (OpenSpec.ofChange assetBundlesSpec)) assetBundlesCard

/-- THE TIED CARD OF 'mastlaw2.AssetMapped'. -/
def assetMappedCard : Claim7 := { stood := { row := assetMappedRow, standIns := [], harness := (true, "68ef9ba93569ec55e53688ba1358c38968de9c8585ab5a3ecd0b0f7b9cf9c76d"), looks := true }, kinds := [], alts := [], laidByText := true, laidKinds := [.data, .data, .data, .data, .sentinel, .sentinel, .pinned], laidTests := true, laidLooks := .later }
def AssetMappedCardSaid : Prop := Claim7.holds Tryz.pinned (.plain (OpenSpec.ofChange assetMappedSpec)) assetMappedCard

/-- THE TIED CARD OF 'mastlaw2.TreeSources'. -/
def treeSourcesCard : Claim7 := { stood := { row := treeSourcesRow, standIns := [], harness := (true, "68ef9ba93569ec55e53688ba1358c38968de9c8585ab5a3ecd0b0f7b9cf9c76d"), looks := true }, kinds := [], alts := [], laidByText := true, laidKinds := [.data, .mapped, .pinned], laidTests := true, laidLooks := .later }
def TreeSourcesCardSaid : Prop := Claim7.holds Tryz.pinned (.plain (OpenSpec.ofChange treeSourcesSpec)) treeSourcesCard

/-- THE TIED CARD OF 'mastlaw2.ConfDiffs'. -/
def confDiffsCard : Claim7 := { stood := { row := confDiffsRow, standIns := [], harness := (true, "68ef9ba93569ec55e53688ba1358c38968de9c8585ab5a3ecd0b0f7b9cf9c76d"), looks := true }, kinds := [], alts := [], laidByText := true, laidKinds := [.data, .pinned], laidTests := true, laidLooks := .later }
def ConfDiffsCardSaid : Prop := Claim7.holds Tryz.pinned (.plain (OpenSpec.ofChange confDiffsSpec)) confDiffsCard

/-- THE SECOND FORM's CARD OF 'mastlaw2.AssetBundles'. -/
def assetBundlesUptoCard : Claim7 := { stood := { row := assetBundlesUptoRow, standIns := [], harness := (true, "68ef9ba93569ec55e53688ba1358c38968de9c8585ab5a3ecd0b0f7b9cf9c76d"), looks := true }, kinds := [], alts := [], laidByText := true, laidKinds := [.data, .pinned], laidTests := true, laidLooks := .later }
def AssetBundlesUptoCardSaid : Prop := Claim7.holds Tryz.pinned (.plain (OpenSpec.upto assetBundlesSpec)) assetBundlesUptoCard

/-- THE SECOND FORM's CARD OF 'mastlaw2.AssetMapped'. -/
def assetMappedUptoCard : Claim7 := { stood := { row := assetMappedUptoRow, standIns := [], harness := (true, "68ef9ba93569ec55e53688ba1358c38968de9c8585ab5a3ecd0b0f7b9cf9c76d"), looks := true }, kinds := [], alts := [], laidByText := true, laidKinds := [.data, .data, .data, .data, .sentinel, .sentinel, .pinned], laidTests := true, laidLooks := .later }
def AssetMappedUptoCardSaid : Prop := Claim7.holds Tryz.pinned (.plain (OpenSpec.upto assetMappedSpec)) assetMappedUptoCard

/-- THE SECOND FORM's CARD OF 'mastlaw2.TreeSources'. -/
def treeSourcesUptoCard : Claim7 := { stood := { row := treeSourcesUptoRow, standIns := [], harness := (true, "68ef9ba93569ec55e53688ba1358c38968de9c8585ab5a3ecd0b0f7b9cf9c76d"), looks := true }, kinds := [], alts := [], laidByText := true, laidKinds := [.data, .mapped, .pinned], laidTests := true, laidLooks := .later }
def TreeSourcesUptoCardSaid : Prop := Claim7.holds Tryz.pinned (.plain (OpenSpec.upto treeSourcesSpec)) treeSourcesUptoCard

/-- THE SECOND FORM's CARD OF 'mastlaw2.ConfDiffs'. -/
def confDiffsUptoCard : Claim7 := { stood := { row := confDiffsUptoRow, standIns := [], harness := (true, "68ef9ba93569ec55e53688ba1358c38968de9c8585ab5a3ecd0b0f7b9cf9c76d"), looks := true }, kinds := [], alts := [], laidByText := true, laidKinds := [.data, .pinned], laidTests := true, laidLooks := .later }
def ConfDiffsUptoCardSaid : Prop := Claim7.holds Tryz.pinned (.plain (OpenSpec.upto confDiffsSpec)) confDiffsUptoCard
end Rows
end Go.Proofs.YtiiohopjkepkgaaGreatDoor
