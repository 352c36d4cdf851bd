/-
  Opening arguments of recursive types, over any program: the reading with its fuel, which falls with each step down. Readings of slices with the readings of their elements and the bulk of them, over any program; strings, lists of strings with their bulk.
-/
import Derived.Test.YteojgenhgjhohaaDoorL3
import Derived.Test.YteojgenhgjhohaaDoorRows
namespace Go.Proofs.YteojgenhgjhohaaDoor
open Go.RowKit Go.WideShapes Go.ChangeShapes Go.ChangeAt

def RdgF {H : Type} (enc : TypeId × Value → H) (P : Program) (W : World) (fuel : Nat) (t : TypeId) (cs : List Value) : Prop :=
  ∃ y, DataW.trod enc P W 0 (fun _ => true) true fuel t cs = some y ∧ Sz P t y.1

section
variable {H : Type} {enc : TypeId × Value → H} {P : Program} {W : World}

theorem Rdg.fuel {t : TypeId} {cs : List Value} (h : Rdg enc P W t cs) : ∃ fuel, RdgF enc P W fuel t cs := h

end

end Go.Proofs.YteojgenhgjhohaaDoor
namespace Go.Proofs.YteojgenhgjhohaaDoor
open Go.RowKit

section
variable {H : Type} {enc : TypeId × Value → H} {P : Program} {W : World}

end

section
variable {H : Type} {enc : TypeId × Value → H} {P : Program} {W : World}
theorem trod_str_w {fuel : Nat} {t : TypeId} {cs : List Value} {y : DataW H} {z : List MemPlace} (ht : P.underlying t = some .string) (h : DataW.trod enc P W 0 (fun _ => true) true fuel t cs = some (y, z)) (hsz : Sz P t y) :
    ∃ s : ByteArray, cs = [.string s] ∧ s.size ≤ 140737488351232 ∧ s.size + 1 = Rows.uptoBulk y := by
  obtain ⟨s, hc, he, _⟩ := DataW.trod_string ht h
  injection he with he _
  subst he
  refine ⟨s, hc, ?_, ?_⟩
  · have := hsz s.data.toList.length (by simp [DataW.weights])
    rw [reach_eq] at this
    exact this
  · simp only [Rows.uptoBulk]
    rfl
end
end Go.Proofs.YteojgenhgjhohaaDoor
