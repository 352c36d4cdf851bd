/-
  Opening arguments, over any program: a slice argument of any element type reads as a list; structs of one-cell fields by value. Opening arguments, over any program, with the bound on sizes that every row has: 'Rdg': the cells read as a value of the type, each string, slice and map in it within the reach.
-/
import Derived.Test.YtocehfhhmljejaaGreatDoorL0
import Derived.ProofKit
import Derived.OpenShut
import Derived.Deep.Slices
import Derived.Lib.SmallJoins
import Derived.SizedLaws
namespace Go.Proofs.YtocehfhhmljejaaGreatDoor
open Go.RowKit Go.WideShapes Go.ChangeShapes Go.ChangeAt

section
variable {H : Type} {enc : TypeId × Value → H} {P : Program} {W : World} {base : Nat} {sp : Nat → Bool} {held : Bool}

structure SlArg (A : Option Addr) (n c : Nat) : Prop where
  nc : n ≤ c
  cm : c ≤ maxLen
  nil : A = none → c = 0

theorem trod_int1 {t : TypeId} {k : IntKind} {fuel : Nat} {cs : List Value} {y : DataW H × List MemPlace} (ht : P.underlying t = some (.int k)) (h : DataW.trod enc P W base sp held fuel t cs = some y) : ∃ n : Int, cs = [.int k n] ∧ (Lit.int k n).wf = true := by
  obtain ⟨n, hc, _, hw⟩ := DataW.trod_int ht h
  exact ⟨n, hc, hw⟩
theorem trod_bool1 {t : TypeId} {fuel : Nat} {cs : List Value} {y : DataW H × List MemPlace} (ht : P.underlying t = some .bool) (h : DataW.trod enc P W base sp held fuel t cs = some y) : ∃ b : Bool, cs = [.bool b] := by
  obtain ⟨b, hc, _⟩ := DataW.trod_bool ht h
  exact ⟨b, hc⟩

def In64 (n : Int) : Prop := -9223372036854775808 ≤ n ∧ n ≤ 9223372036854775807
theorem in64_of {n : Int} (h : (Lit.int .i64 n).wf = true) : In64 n := by
  simpa [Lit.wf, IntKind.min, IntKind.max, IntKind.signed, IntKind.bits, In64] using h

end
end Go.Proofs.YtocehfhhmljejaaGreatDoor
namespace Go.Proofs.YtocehfhhmljejaaGreatDoor
open Go.RowKit Go.WideShapes Go.ChangeShapes Go.ChangeAt

theorem reach_eq : reachBytes = 140737488351232 := by decide

def Sz {H : Type} (P : Program) (t : TypeId) (d : DataW H) : Prop := ∀ n ∈ d.weights P t, n ≤ reachBytes

def Rdg {H : Type} (enc : TypeId × Value → H) (P : Program) (W : World) (t : TypeId) (cs : List Value) : Prop :=
  ∃ fuel y, DataW.trod enc P W 0 (fun _ => true) true fuel t cs = some y ∧ Sz P t y.1

section
variable {H : Type} {enc : TypeId × Value → H} {P : Program} {W : World}

theorem rdg_int {t : TypeId} {k : IntKind} {cs : List Value} (ht : P.underlying t = some (.int k)) (h : Rdg enc P W t cs) : ∃ n : Int, cs = [.int k n] ∧ (Lit.int k n).wf = true := by
  obtain ⟨fu, y, hy, _⟩ := h
  exact trod_int1 ht hy
theorem rdg_i64 {t : TypeId} {cs : List Value} (ht : P.underlying t = some (.int .i64)) (h : Rdg enc P W t cs) : ∃ n : Int, cs = [.int .i64 n] ∧ In64 n := by
  obtain ⟨n, hc, hw⟩ := rdg_int ht h
  exact ⟨n, hc, in64_of hw⟩
theorem rdg_bool {t : TypeId} {cs : List Value} (ht : P.underlying t = some .bool) (h : Rdg enc P W t cs) : ∃ b : Bool, cs = [.bool b] := by
  obtain ⟨fu, y, hy, _⟩ := h
  exact trod_bool1 ht hy
theorem sz_all {e : TypeId} : ∀ {l : List (DataW H)} {n : Nat} {d : DataW H}, d ∈ l → n ∈ d.weights P e → n ∈ DataW.weightsAll P e l
  | [], _, _, h, _ => by cases h
  | a :: l, n, d, h, hn => by
    simp only [DataW.weightsAll, List.mem_append]
    rcases List.mem_cons.1 h with rfl | h
    · exact .inl hn
    · exact .inr (sz_all h hn)

structure SlOk (A : Option Addr) (n c b : Nat) : Prop where
  nc : n ≤ c
  cb : c * b ≤ 140737488351232
  nil : A = none → c = 0

theorem sz_each : ∀ {ts : List TypeId} {l : List (DataW H)} {j n : Nat} {t : TypeId} {d : DataW H}, ts[j]? = some t → l[j]? = some d → n ∈ d.weights P t → n ∈ DataW.weightsEach P ts l :=
  fun ht hd hn => DataW.weights_mem_each ht hd _ hn

end
end Go.Proofs.YtocehfhhmljejaaGreatDoor
