/-
  DERIVED. GIVEN WITH THE SEED: THE CARDS: each row of YtnealjgndobknaaDoorRows.lean that lists a variable, with what it lists TIED to the program's text (the seventh form; the later family's looks); each row that meets fmt, with fmt's text TOLD by the authors' own Lean function (tested against real Go, not proved from fmt's source: count such statements apart). THE CARD IS WHAT COUNTS. Prove the row's statement (the work); the ties are given (YtnealjgndobknaaDoorTie.lean); close each card by the builder's one call (the guide's Derived/Test/ToyasCard.lean, 'card_holds'). Laid BY PROGRAM, IN A SANDBOX (cutbox-door.mjs). By AI agents, Wed Nov 11 2026. No macro, syntax, notation, axiom, sorry.
-/
import Derived.Test.YtnealjgndobknaaDoorRows
import GoSem.ClaimSeven
namespace Go.Proofs.YtnealjgndobknaaDoor
namespace Rows

/-- THE TIED CARD OF 'mastlaw2.CondChecks'. -/
def condChecksCard : Claim7 := { stood := { row := condChecksRow, standIns := [], harness := (true, "7bdd68edc301b85fc25f3bdf31def111f90086a2345112dbaa52e1b2c86f98f1"), looks := false }, kinds := [], alts := [], laidByText := true, laidKinds := [.data, .widerDeep, .pinned], laidTests := true, laidLooks := .later }
def CondChecksCardSaid : Prop := Claim7.holds Tryd.pinned (.plain (OpenSpec.ofChange condChecksSpec)) condChecksCard

/-- THE TIED CARD OF 'mastlaw2.ImageSources'. -/
def imageSourcesCard : Claim7 := { stood := { row := imageSourcesRow, standIns := [], harness := (true, "7bdd68edc301b85fc25f3bdf31def111f90086a2345112dbaa52e1b2c86f98f1"), looks := false }, kinds := [], alts := [], laidByText := true, laidKinds := [.data, .data, .data, .data, .pinned], laidTests := true, laidLooks := .later }
def ImageSourcesCardSaid : Prop := Claim7.holds Tryd.pinned (.plain (OpenSpec.ofChange imageSourcesSpec)) imageSourcesCard

/-- THE TIED CARD OF 'mastlaw2.RuleWrites'. -/
def ruleWritesCard : Claim7 := { stood := { row := ruleWritesRow, standIns := [], harness := (true, "7bdd68edc301b85fc25f3bdf31def111f90086a2345112dbaa52e1b2c86f98f1"), looks := false }, kinds := [], alts := [], laidByText := true, laidKinds := [.data, .data, .data], laidTests := true, laidLooks := .later }
def RuleWritesCardSaid : Prop := Claim7.holds Tryd.pinned (.plain (OpenSpec.ofChange ruleWritesSpec)) ruleWritesCard

/-- THE SECOND FORM's CARD OF 'mastlaw2.CondChecks'. -/
def condChecksUptoCard : Claim7 := { stood := { row := condChecksUptoRow, standIns := [], harness := (true, "7bdd68edc301b85fc25f3bdf31def111f90086a2345112dbaa52e1b2c86f98f1"), looks := false }, kinds := [], alts := [], laidByText := true, laidKinds := [.data, .widerDeep, .pinned], laidTests := true, laidLooks := .later }
def CondChecksUptoCardSaid : Prop := Claim7.holds Tryd.pinned (.plain (OpenSpec.upto condChecksSpec)) condChecksUptoCard

/-- THE SECOND FORM's CARD OF 'mastlaw2.ImageSources'. -/
def imageSourcesUptoCard : Claim7 := { stood := { row := imageSourcesUptoRow, standIns := [], harness := (true, "7bdd68edc301b85fc25f3bdf31def111f90086a2345112dbaa52e1b2c86f98f1"), looks := false }, kinds := [], alts := [], laidByText := true, laidKinds := [.data, .data, .data, .data, .pinned], laidTests := true, laidLooks := .later }
def ImageSourcesUptoCardSaid : Prop := Claim7.holds Tryd.pinned (.plain (OpenSpec.upto imageSourcesSpec)) imageSourcesUptoCard

/-- THE SECOND FORM's CARD OF 'mastlaw2.RuleWrites'. -/
def ruleWritesUptoCard : Claim7 := { stood := { row := ruleWritesUptoRow, standIns := [], harness := (true, "7bdd68edc301b85fc25f3bdf31def111f90086a2345112dbaa52e1b2c86f98f1"), looks := false }, kinds := [], alts := [], laidByText := true, laidKinds := [.data, .data, .data], laidTests := true, laidLooks := .later }
def RuleWritesUptoCardSaid : Prop := Claim7.holds Tryd.pinned (.plain (OpenSpec.upto ruleWritesSpec)) ruleWritesUptoCard
end Rows
end Go.Proofs.YtnealjgndobknaaDoor
