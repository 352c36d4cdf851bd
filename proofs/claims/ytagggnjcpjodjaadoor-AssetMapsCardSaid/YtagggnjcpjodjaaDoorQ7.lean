/-
  The reference's ValuesOf, LevelsOf, eachValue, ConfCheck.
-/
import Derived.Test.YtagggnjcpjodjaaDoorQ6
import Derived.Test.YtagggnjcpjodjaaDoorQ4
namespace Go.Proofs.YtagggnjcpjodjaaDoor
open Go.RowKit
set_option linter.unusedVariables false
set_option linter.unusedSimpArgs false
/-- A field that a kind does not use is not zero; keys without items left out. -/
def unused5 (v : Vu) : Prop :=
  (v.b = true ∧ v.kind ≠ 1) ∨ (v.i ≠ 0 ∧ v.kind ≠ 2 ∧ v.kind ≠ 4) ∨ (v.text ≠ ⟨#[]⟩ ∧ v.kind ≠ 3) ∨ (0 < v.items.length ∧ v.kind ≠ 5 ∧ v.kind ≠ 6) ∨ (0 < v.keys.length ∧ v.kind ≠ 6)
instance (v : Vu) : Decidable (unused5 v) := by unfold unused5; infer_instance
def un1 (v : Vu) : Prop := v.b = true ∧ v.kind ≠ 1
instance (v : Vu) : Decidable (un1 v) := by unfold un1; infer_instance
def un2 (v : Vu) : Prop := un1 v ∨ (v.i ≠ 0 ∧ v.kind ≠ 2 ∧ v.kind ≠ 4)
instance (v : Vu) : Decidable (un2 v) := by unfold un2; infer_instance
def un3 (v : Vu) : Prop := un2 v ∨ (v.text ≠ ⟨#[]⟩ ∧ v.kind ≠ 3)
instance (v : Vu) : Decidable (un3 v) := by unfold un3; infer_instance
def un4 (v : Vu) : Prop := un3 v ∨ (0 < v.items.length ∧ v.kind ≠ 5 ∧ v.kind ≠ 6)
instance (v : Vu) : Decidable (un4 v) := by unfold un4; infer_instance
def unused6 (v : Vu) : Prop := v.kind = 6 ∧ v.keys.length ≠ v.items.length
instance (v : Vu) : Decidable (unused6 v) := by unfold unused6; infer_instance
theorem unused_iff (v : Vu) : unusedP v ↔ unused5 v ∨ unused6 v := by unfold unusedP unused5 unused6; grind
def dayP (v : Vu) : Prop := v.kind = 4 ∧ badDayP v.i
instance (v : Vu) : Decidable (dayP v) := by unfold dayP; infer_instance
section
variable (E : Env)
set_option maxRecDepth 100000
end
end Go.Proofs.YtagggnjcpjodjaaDoor
