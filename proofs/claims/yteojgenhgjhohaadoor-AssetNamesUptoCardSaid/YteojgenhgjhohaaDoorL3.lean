/-
  Opening arguments, over any program: a slice argument of any element type reads as a list; structs of one-cell fields by value. Opening arguments, over any program, with the bound on sizes that every row has: 'Rdg': the cells read as a value of the type, each string, slice and map in it within the reach.
-/
import Derived.Test.YteojgenhgjhohaaDoorL0
import Derived.ProofKit
import Derived.OpenShut
import Derived.Deep.Slices
import Derived.Lib.SmallJoins
import Derived.SizedLaws
namespace Go.Proofs.YteojgenhgjhohaaDoor
open Go.RowKit Go.WideShapes Go.ChangeShapes Go.ChangeAt

section
variable {H : Type} {enc : TypeId × Value → H} {P : Program} {W : World} {base : Nat} {sp : Nat → Bool} {held : Bool}

structure SlArg (A : Option Addr) (n c : Nat) : Prop where
  nc : n ≤ c
  cm : c ≤ maxLen
  nil : A = none → c = 0

def In64 (n : Int) : Prop := -9223372036854775808 ≤ n ∧ n ≤ 9223372036854775807
end
end Go.Proofs.YteojgenhgjhohaaDoor
namespace Go.Proofs.YteojgenhgjhohaaDoor
open Go.RowKit Go.WideShapes Go.ChangeShapes Go.ChangeAt

theorem reach_eq : reachBytes = 140737488351232 := by decide

def Sz {H : Type} (P : Program) (t : TypeId) (d : DataW H) : Prop := ∀ n ∈ d.weights P t, n ≤ reachBytes

def Rdg {H : Type} (enc : TypeId × Value → H) (P : Program) (W : World) (t : TypeId) (cs : List Value) : Prop :=
  ∃ fuel y, DataW.trod enc P W 0 (fun _ => true) true fuel t cs = some y ∧ Sz P t y.1

section
variable {H : Type} {enc : TypeId × Value → H} {P : Program} {W : World}

theorem rdg_param {ts : List TypeId} {ds : List (DataW H)} (hsz : (DataW.weightsEach P ts ds).all (· ≤ reachBytes) = true) (j : Nat) {t : TypeId} {v : Value} {d : DataW H} {p : List MemPlace} (ht : ts[j]? = some t) (hd : ds[j]? = some d)
    (h : DataW.Trod enc P W 0 (fun _ => true) true t v d p) : Rdg enc P W t v.cells.toList := by
  obtain ⟨fuel, hf⟩ := h
  refine ⟨fuel, _, hf, fun n hn => ?_⟩
  exact of_decide_eq_true (List.all_eq_true.1 hsz _ (DataW.weights_mem_each ht hd n hn))

theorem rdg_str {t : TypeId} {cs : List Value} (ht : P.underlying t = some .string) (h : Rdg enc P W t cs) : ∃ s : ByteArray, cs = [.string s] ∧ s.size ≤ 140737488351232 := by
  obtain ⟨fu, y, hy, hs⟩ := h
  obtain ⟨s, hc, he, _⟩ := DataW.trod_string ht hy
  refine ⟨s, hc, ?_⟩
  have := hs s.data.toList.length (by rw [he]; simp [DataW.weights])
  rw [reach_eq] at this
  exact this

structure SlOk (A : Option Addr) (n c b : Nat) : Prop where
  nc : n ≤ c
  cb : c * b ≤ 140737488351232
  nil : A = none → c = 0

end
end Go.Proofs.YteojgenhgjhohaaDoor
