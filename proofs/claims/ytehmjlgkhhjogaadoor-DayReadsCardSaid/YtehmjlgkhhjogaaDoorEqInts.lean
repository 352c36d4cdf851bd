/-
  slices.Equal at []int: it says whether the two slices read as the same list.
-/
import Derived.Test.YtehmjlgkhhjogaaDoorRows
import Derived.Test.YtehmjlgkhhjogaaDoorL2
import Derived.Deep.QuietTactic
import Derived.BigQuiet
import Derived.WalkLawsBesides
namespace Go.Proofs.YtehmjlgkhhjogaaDoor
open Go.RowKit

theorem intTy : SlTy Tryd.prog 82 3 (.int .i64 0) 1 8 :=
  ⟨Tryd.underlying82, info_parts (by kernel_rfl), rfl, by decide, by decide⟩

theorem ne_of_get {α : Type} {l l' : List α} {k : Nat} (h : l[k]? ≠ l'[k]?) : l ≠ l' := fun e => h (by rw [e])

def EqRel (n : Nat) (l l' : List Int) (w : World) (_ v13 : Value) (wr : World) : Prop :=
  ∃ (k d : Nat), k ≤ n ∧ v13 = .int .i64 k ∧ wr = w.drewN d ∧ l.take k = l'.take k

end Go.Proofs.YtehmjlgkhhjogaaDoor
