/-
  Small laws of memory of my own, over any program: the type of a slice in one bundle; append of one element that the call has just laid out; rows of the call's own.
-/
import Derived.WalkKit
import Derived.Handy
import Derived.Deep.AppendLies
import Derived.Maps.AppendAt
import Derived.Deep.Draws
namespace Go.Proofs.YteojgenhgjhohaaDoor
open Go.RowKit

theorem hide {p : Prop} (h : p) : Hid p := h

structure SlTy (P : Program) (t e : TypeId) (z : Value) (size bytes : Nat) : Prop where
  und : P.underlying t = some (.slice e)
  info : ∃ i, P.info? e = some i ∧ i.zero = some z ∧ i.size = size ∧ i.bytes = bytes
  zs : z.cells.size = size
  pos : 0 < size
  bpos : 0 < bytes

section
variable {P : Program} {t e : TypeId} {z : Value} {size bytes : Nat}

end

section
variable {P : Program} {t e : TypeId} {z : Value} {size bytes : Nat}
end

/-! ## A slice that reads as a list -/

def Rd {α : Type} (w : World) (size : Nat) (f : α → List Value) (A : Option Addr) (l : List α) : Prop :=
  l = [] ∨ ∃ b o, A = some ⟨b, o, none⟩ ∧ ∀ k x, l[k]? = some x → ∀ j v, (f x)[j]? = some v → w.cell? ⟨b, o + k * size + j, none⟩ = some v

section
variable {α : Type} {w w' : World} {size : Nat} {f : α → List Value} {A : Option Addr} {l : List α}

theorem Rd.nil (w : World) (size : Nat) (f : α → List Value) (A : Option Addr) : Rd w size f A [] := .inl rfl

theorem Rd.below {B : Nat} (h : Rd w size f A l) (hb : Below B w w') (hA : ∀ b o, A = some ⟨b, o, none⟩ → b < B) : Rd w' size f A l := by
  rcases h with h | ⟨b, o, rfl, h⟩
  · exact .inl h
  · exact .inr ⟨b, o, rfl, fun k x hx j v hv => (hb.cell (p := ⟨b, o + k * size + j, none⟩) (hA b o rfl)).trans (h k x hx j v hv)⟩

theorem Rd.keep (h : Rd w size f A l) (hb : Below w.heap.size w w') : Rd w' size f A l := by
  rcases h with h | ⟨b, o, rfl, h⟩
  · exact .inl h
  · refine .inr ⟨b, o, rfl, fun k x hx j v hv => ?_⟩
    have hc := h k x hx j v hv
    exact (hb.cell (World.block_lt_of_cell? w ⟨b, o + k * size + j, none⟩ hc)).trans hc
end
end Go.Proofs.YteojgenhgjhohaaDoor
