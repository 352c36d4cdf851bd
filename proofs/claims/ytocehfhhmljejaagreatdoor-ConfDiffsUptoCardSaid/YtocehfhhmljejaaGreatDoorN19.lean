/-
  Contracts with objects lent whose results are frozen, over any program.
-/
import Derived.Test.YtocehfhhmljejaaGreatDoorN18
namespace Go.Proofs.YtocehfhhmljejaaGreatDoor
open Go.RowKit
set_option linter.unusedVariables false
set_option linter.unusedSimpArgs false
section
variable {κ : Type} {X : Cx κ}
end
end Go.Proofs.YtocehfhhmljejaaGreatDoor
