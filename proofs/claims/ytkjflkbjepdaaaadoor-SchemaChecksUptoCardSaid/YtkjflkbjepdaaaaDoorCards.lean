/-
  DERIVED. GIVEN WITH THE SEED: THE CARDS: each row of YtkjflkbjepdaaaaDoorRows.lean that lists a variable, with what it lists TIED to the program's text (the seventh form; the later family's looks); each row that meets fmt, with fmt's text TOLD by the authors' own Lean function (tested against real Go, not proved from fmt's source: count such statements apart). THE CARD IS WHAT COUNTS. Prove the row's statement (the work); the ties are given (YtkjflkbjepdaaaaDoorTie.lean); close each card by the builder's one call (the guide's Derived/Test/ToyasCard.lean, 'card_holds'). Laid BY PROGRAM, IN A SANDBOX (cutbox-door.mjs). By AI agents, Wed Nov 11 2026. No macro, syntax, notation, axiom, sorry.
-/
import Derived.Test.YtkjflkbjepdaaaaDoorRows
import GoSem.ClaimSeven
namespace Go.Proofs.YtkjflkbjepdaaaaDoor
namespace Rows

/-- THE TIED CARD OF 'mastlaw2.AssetMaps'. -/
def assetMapsCard : Claim7 := { stood := { row := assetMapsRow, standIns := [], harness := (true, "942259b4be51b04004cb2d52b59584901b8fcee6945149adfc31418c76850c7e"), looks := true }, kinds := [], alts := [], laidByText := true, laidKinds := [.data, .data, .data, .data, .pinned], laidTests := true, laidLooks := .later }
def AssetMapsCardSaid : Prop := Claim7.holds Tryd.pinned (.plain (OpenSpec.ofChange assetMapsSpec)) assetMapsCard

/-- THE TIED CARD OF 'mastlaw2.ImageSources'. -/
def imageSourcesCard : Claim7 := { stood := { row := imageSourcesRow, standIns := [], harness := (true, "942259b4be51b04004cb2d52b59584901b8fcee6945149adfc31418c76850c7e"), looks := true }, kinds := [], alts := [], laidByText := true, laidKinds := [.data, .data, .data, .data, .pinned], laidTests := true, laidLooks := .later }
def ImageSourcesCardSaid : Prop := Claim7.holds Tryd.pinned (.plain (OpenSpec.ofChange imageSourcesSpec)) imageSourcesCard

/-- THE TIED CARD OF 'mastlaw2.RuleWrites'. -/
def ruleWritesCard : Claim7 := { stood := { row := ruleWritesRow, standIns := [], harness := (true, "942259b4be51b04004cb2d52b59584901b8fcee6945149adfc31418c76850c7e"), looks := true }, kinds := [], alts := [], laidByText := true, laidKinds := [.data, .data, .data], laidTests := true, laidLooks := .later }
def RuleWritesCardSaid : Prop := Claim7.holds Tryd.pinned (.plain (OpenSpec.ofChange ruleWritesSpec)) ruleWritesCard

/-- THE TIED CARD OF 'mastlaw2.ConfMerges'. -/
def confMergesCard : Claim7 := { stood := { row := confMergesRow, standIns := [], harness := (true, "942259b4be51b04004cb2d52b59584901b8fcee6945149adfc31418c76850c7e"), looks := true }, kinds := [], alts := [], laidByText := true, laidKinds := [.data, .pinned], laidTests := true, laidLooks := .later }
def ConfMergesCardSaid : Prop := Claim7.holds Tryd.pinned (.plain (OpenSpec.ofChange confMergesSpec)) confMergesCard

/-- THE TIED CARD OF 'mastlaw2.SchemaChecks'. -/
def schemaChecksCard : Claim7 := { stood := { row := schemaChecksRow, standIns := [], harness := (true, "942259b4be51b04004cb2d52b59584901b8fcee6945149adfc31418c76850c7e"), looks := true }, kinds := [], alts := [], laidByText := true, laidKinds := [.data, .data, .data, .data, .sentinel, .sentinel, .pinned], laidTests := true, laidLooks := .later }
def SchemaChecksCardSaid : Prop := Claim7.holds Tryd.pinned (.plain (OpenSpec.ofChange schemaChecksSpec)) schemaChecksCard

/-- THE SECOND FORM's CARD OF 'mastlaw2.AssetMaps'. -/
def assetMapsUptoCard : Claim7 := { stood := { row := assetMapsUptoRow, standIns := [], harness := (true, "942259b4be51b04004cb2d52b59584901b8fcee6945149adfc31418c76850c7e"), looks := true }, kinds := [], alts := [], laidByText := true, laidKinds := [.data, .data, .data, .data, .pinned], laidTests := true, laidLooks := .later }
def AssetMapsUptoCardSaid : Prop := Claim7.holds Tryd.pinned (.plain (OpenSpec.upto assetMapsSpec)) assetMapsUptoCard

/-- THE SECOND FORM's CARD OF 'mastlaw2.ImageSources'. -/
def imageSourcesUptoCard : Claim7 := { stood := { row := imageSourcesUptoRow, standIns := [], harness := (true, "942259b4be51b04004cb2d52b59584901b8fcee6945149adfc31418c76850c7e"), looks := true }, kinds := [], alts := [], laidByText := true, laidKinds := [.data, .data, .data, .data, .pinned], laidTests := true, laidLooks := .later }
def ImageSourcesUptoCardSaid : Prop := Claim7.holds Tryd.pinned (.plain (OpenSpec.upto imageSourcesSpec)) imageSourcesUptoCard

/-- THE SECOND FORM's CARD OF 'mastlaw2.RuleWrites'. -/
def ruleWritesUptoCard : Claim7 := { stood := { row := ruleWritesUptoRow, standIns := [], harness := (true, "942259b4be51b04004cb2d52b59584901b8fcee6945149adfc31418c76850c7e"), looks := true }, kinds := [], alts := [], laidByText := true, laidKinds := [.data, .data, .data], laidTests := true, laidLooks := .later }
def RuleWritesUptoCardSaid : Prop := Claim7.holds Tryd.pinned (.plain (OpenSpec.upto ruleWritesSpec)) ruleWritesUptoCard

/-- THE SECOND FORM's CARD OF 'mastlaw2.ConfMerges'. -/
def confMergesUptoCard : Claim7 := { stood := { row := confMergesUptoRow, standIns := [], harness := (true, "942259b4be51b04004cb2d52b59584901b8fcee6945149adfc31418c76850c7e"), looks := true }, kinds := [], alts := [], laidByText := true, laidKinds := [.data, .pinned], laidTests := true, laidLooks := .later }
def ConfMergesUptoCardSaid : Prop := Claim7.holds Tryd.pinned (.plain (OpenSpec.upto confMergesSpec)) confMergesUptoCard

/-- THE SECOND FORM's CARD OF 'mastlaw2.SchemaChecks'. -/
def schemaChecksUptoCard : Claim7 := { stood := { row := schemaChecksUptoRow, standIns := [], harness := (true, "942259b4be51b04004cb2d52b59584901b8fcee6945149adfc31418c76850c7e"), looks := true }, kinds := [], alts := [], laidByText := true, laidKinds := [.data, .data, .data, .data, .sentinel, .sentinel, .pinned], laidTests := true, laidLooks := .later }
def SchemaChecksUptoCardSaid : Prop := Claim7.holds Tryd.pinned (.plain (OpenSpec.upto schemaChecksSpec)) schemaChecksUptoCard
end Rows
end Go.Proofs.YtkjflkbjepdaaaaDoor
