/-
  Rows of values, and rows with one more behind.
-/
import Derived.Test.YteojgenhgjhohaaDoorQ6
namespace Go.Proofs.YteojgenhgjhohaaDoor
open Go.RowKit
set_option linter.unusedVariables false
set_option linter.unusedSimpArgs false
section
variable (E : Env)
end
end Go.Proofs.YteojgenhgjhohaaDoor
