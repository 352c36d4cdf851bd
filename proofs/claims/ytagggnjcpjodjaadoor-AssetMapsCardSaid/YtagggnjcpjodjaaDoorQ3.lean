/-
  Keys of settings. Fields that a kind does not use.
-/
import Derived.Test.YtagggnjcpjodjaaDoorQ1
namespace Go.Proofs.YtagggnjcpjodjaaDoor
open Go.RowKit
set_option linter.unusedVariables false
set_option linter.unusedSimpArgs false
theorem str_pos {s : ByteArray} (h : ¬ s = ⟨#[]⟩) : 0 < s.size := by
  rcases Nat.eq_zero_or_pos s.size with h0 | h0
  · exact absurd (by cases s with | mk d => exact congrArg _ (Array.eq_empty_of_size_eq_zero h0)) h
  · exact h0
theorem allN_one {n : Nat} {p : Nat → Bool} (h : n = 1) (hp : p 0 = true) : allN n p = true := by subst h; simp [allN, hp]
theorem keyOkB_no1 {s : ByteArray} (h : s = ⟨#[]⟩) : keyOkB s = false := by subst h; unfold keyOkB; rfl
theorem keyOkB_no2 {s : ByteArray} (h : 40 < s.size) : keyOkB s = false := by unfold keyOkB; simp; omega
theorem keyOkB_no3 {s : ByteArray} (h : smallB (bAt s 0) = false) : keyOkB s = false := by unfold keyOkB; simp [h]
theorem keyOkB_no4 {s : ByteArray} {k : Nat} (h : kchB (bAt s k) = false) (hk : k < s.size) : keyOkB s = false := by unfold keyOkB; rw [allN_no hk h]; simp
theorem keyOkB_yes {s : ByteArray} (h0 : 0 < s.size) (h1 : s.size ≤ 40) (h2 : smallB (bAt s 0) = true) (h3 : allN s.size (fun k => kchB (bAt s k)) = true) : keyOkB s = true := by unfold keyOkB; simp [h0, h1, h2, h3]
section
variable (E : Env)
set_option maxRecDepth 100000

end
end Go.Proofs.YtagggnjcpjodjaaDoor
namespace Go.Proofs.YtagggnjcpjodjaaDoor
open Go.RowKit
set_option linter.unusedVariables false
set_option linter.unusedSimpArgs false
/-- A field that a kind does not use is not zero. -/
def unusedP (v : Vu) : Prop :=
  (v.b = true ∧ v.kind ≠ 1) ∨ (v.i ≠ 0 ∧ v.kind ≠ 2 ∧ v.kind ≠ 4) ∨ (v.text ≠ ⟨#[]⟩ ∧ v.kind ≠ 3) ∨ (0 < v.items.length ∧ v.kind ≠ 5 ∧ v.kind ≠ 6) ∨ (0 < v.keys.length ∧ v.kind ≠ 6) ∨ (v.kind = 6 ∧ v.keys.length ≠ v.items.length)
instance (v : Vu) : Decidable (unusedP v) := by unfold unusedP; infer_instance
def badDayP (n : Int) : Prop := n < 0 ∨ 84005 < n
instance (n : Int) : Decidable (badDayP n) := by unfold badDayP; infer_instance
section
variable (E : Env)
set_option maxRecDepth 100000
end
end Go.Proofs.YtagggnjcpjodjaaDoor
