/-
  conf.valueFault and its reference parts: what is wrong with a value; counts.
-/
import Derived.Test.YtagggnjcpjodjaaDoorQ3
namespace Go.Proofs.YtagggnjcpjodjaaDoor
open Go.RowKit
set_option linter.unusedVariables false
set_option linter.unusedSimpArgs false

/-- What is wrong with keys from an index on. -/
def keysFrom (l : List ByteArray) (k : Nat) : Int :=
  if k < l.length then
    (if keyOkB (l.getD k ⟨#[]⟩) = true then
      (if 0 < k ∧ (strLt (l.getD k ⟨#[]⟩) (l.getD (k - 1) ⟨#[]⟩) || decide (l.getD k ⟨#[]⟩ = l.getD (k - 1) ⟨#[]⟩)) = true then 5 else keysFrom l (k + 1)) else 12) else 0
  termination_by l.length - k
theorem keysFrom_end {l : List ByteArray} {k : Nat} (h : ¬ k < l.length) : keysFrom l k = 0 := by rw [keysFrom, if_neg h]
theorem keysFrom_name {l : List ByteArray} {k : Nat} (h : k < l.length) (h1 : keyOkB (l.getD k ⟨#[]⟩) = false) : keysFrom l k = 12 := by rw [keysFrom, if_pos h, h1]; rfl
theorem keysFrom_order {l : List ByteArray} {k : Nat} (h : k < l.length) (h1 : keyOkB (l.getD k ⟨#[]⟩) = true) (h2 : 0 < k) (h3 : (strLt (l.getD k ⟨#[]⟩) (l.getD (k - 1) ⟨#[]⟩) || decide (l.getD k ⟨#[]⟩ = l.getD (k - 1) ⟨#[]⟩)) = true) : keysFrom l k = 5 := by rw [keysFrom, if_pos h, if_pos h1, if_pos ⟨h2, h3⟩]
theorem keysFrom_next0 {l : List ByteArray} {k : Nat} (h : k < l.length) (h1 : keyOkB (l.getD k ⟨#[]⟩) = true) (h2 : ¬ 0 < k) : keysFrom l k = keysFrom l (k + 1) := by
  rw [keysFrom, if_pos h, if_pos h1, if_neg (fun h => h2 h.1)]
theorem keysFrom_next {l : List ByteArray} {k : Nat} (h : k < l.length) (h1 : keyOkB (l.getD k ⟨#[]⟩) = true) (h3 : (strLt (l.getD k ⟨#[]⟩) (l.getD (k - 1) ⟨#[]⟩) || decide (l.getD k ⟨#[]⟩ = l.getD (k - 1) ⟨#[]⟩)) = false) : keysFrom l k = keysFrom l (k + 1) := by
  rw [keysFrom, if_pos h, if_pos h1, if_neg (fun h => by rw [h3] at h; cases h.2)]
/-- What is wrong with a value, its items left out. -/
def headE (v : Vu) : Int :=
  if v.kind < 0 ∨ 6 < v.kind then 10 else if unusedP v then 1 else if v.kind = 4 ∧ badDayP v.i then 2 else if 5000 < v.text.size then 4 else if badStr v.text = true then 9 else keysFrom v.keys 0
section
variable (E : Env)
set_option maxRecDepth 100000
end
end Go.Proofs.YtagggnjcpjodjaaDoor
