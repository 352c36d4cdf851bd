/-
  DERIVED. GIVEN WITH THE SEED: THE CARDS: each row of YtagggnjcpjodjaaDoorRows.lean that lists a variable, with what it lists TIED to the program's text (the seventh form; the later family's looks); each row that meets fmt, with fmt's text TOLD by the authors' own Lean function (tested against real Go, not proved from fmt's source: count such statements apart). THE CARD IS WHAT COUNTS. Prove the row's statement (the work); the ties are given (YtagggnjcpjodjaaDoorTie.lean); close each card by the builder's one call (the guide's Derived/Test/ToyasCard.lean, 'card_holds'). Laid BY PROGRAM, IN A SANDBOX (cutbox-door.mjs). By AI agents, Wed Nov 11 2026. No macro, syntax, notation, axiom, sorry.
-/
import Derived.Test.YtagggnjcpjodjaaDoorRows
import GoSem.ClaimSeven
namespace Go.Proofs.YtagggnjcpjodjaaDoor
namespace Rows

/-- THE TIED CARD OF 'mastlaw2.ImageSources'. -/
def imageSourcesCard : Claim7 := { stood := { row := imageSourcesRow, standIns := [], harness := (true, "6c22ba10642013e6d828e2da221356b8cb491d12e8fa391b1174305f2e98433b"), looks := false }, kinds := [], alts := [], laidByText := true, laidKinds := [.data, .data, .data, .data, .pinned], laidTests := true, laidLooks := .later }
def ImageSourcesCardSaid : Prop := Claim7.holds Tryd.pinned (.plain (OpenSpec.ofChange imageSourcesSpec)) imageSourcesCard

/-- THE TIED CARD OF 'mastlaw2.RuleWrites'. -/
def ruleWritesCard : Claim7 := { stood := { row := ruleWritesRow, standIns := [], harness := (true, "6c22ba10642013e6d828e2da221356b8cb491d12e8fa391b1174305f2e98433b"), looks := false }, kinds := [], alts := [], laidByText := true, laidKinds := [.data, .data, .data], laidTests := true, laidLooks := .later }
def RuleWritesCardSaid : Prop := Claim7.holds Tryd.pinned (.plain (OpenSpec.ofChange ruleWritesSpec)) ruleWritesCard

/-- THE TIED CARD OF 'mastlaw2.AssetMaps'. -/
def assetMapsCard : Claim7 := { stood := { row := assetMapsRow, standIns := [], harness := (true, "6c22ba10642013e6d828e2da221356b8cb491d12e8fa391b1174305f2e98433b"), looks := false }, kinds := [], alts := [], laidByText := true, laidKinds := [.data, .data, .data, .data, .pinned], laidTests := true, laidLooks := .later }
def AssetMapsCardSaid : Prop := Claim7.holds Tryd.pinned (.plain (OpenSpec.ofChange assetMapsSpec)) assetMapsCard

/-- THE SECOND FORM's CARD OF 'mastlaw2.ImageSources'. -/
def imageSourcesUptoCard : Claim7 := { stood := { row := imageSourcesUptoRow, standIns := [], harness := (true, "6c22ba10642013e6d828e2da221356b8cb491d12e8fa391b1174305f2e98433b"), looks := false }, kinds := [], alts := [], laidByText := true, laidKinds := [.data, .data, .data, .data, .pinned], laidTests := true, laidLooks := .later }
def ImageSourcesUptoCardSaid : Prop := Claim7.holds Tryd.pinned (.plain (OpenSpec.upto imageSourcesSpec)) imageSourcesUptoCard

/-- THE SECOND FORM's CARD OF 'mastlaw2.RuleWrites'. -/
def ruleWritesUptoCard : Claim7 := { stood := { row := ruleWritesUptoRow, standIns := [], harness := (true, "6c22ba10642013e6d828e2da221356b8cb491d12e8fa391b1174305f2e98433b"), looks := false }, kinds := [], alts := [], laidByText := true, laidKinds := [.data, .data, .data], laidTests := true, laidLooks := .later }
def RuleWritesUptoCardSaid : Prop := Claim7.holds Tryd.pinned (.plain (OpenSpec.upto ruleWritesSpec)) ruleWritesUptoCard

/-- THE SECOND FORM's CARD OF 'mastlaw2.AssetMaps'. -/
def assetMapsUptoCard : Claim7 := { stood := { row := assetMapsUptoRow, standIns := [], harness := (true, "6c22ba10642013e6d828e2da221356b8cb491d12e8fa391b1174305f2e98433b"), looks := false }, kinds := [], alts := [], laidByText := true, laidKinds := [.data, .data, .data, .data, .pinned], laidTests := true, laidLooks := .later }
def AssetMapsUptoCardSaid : Prop := Claim7.holds Tryd.pinned (.plain (OpenSpec.upto assetMapsSpec)) assetMapsUptoCard
end Rows
end Go.Proofs.YtagggnjcpjodjaaDoor
