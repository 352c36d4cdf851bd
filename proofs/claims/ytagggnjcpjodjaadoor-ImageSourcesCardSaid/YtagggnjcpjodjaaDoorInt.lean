/-
  Rows of ints as arguments.
-/
import Derived.Test.YtagggnjcpjodjaaDoorP
import Derived.Test.YtagggnjcpjodjaaDoorQ1
namespace Go.Proofs.YtagggnjcpjodjaaDoor
open Go.RowKit
set_option linter.unusedVariables false
namespace ints
section
variable (E : Env)
theorem ints_of : ∀ (l : List (List DD × Nat)), (∀ x ∈ l, (∃ k, In64 k ∧ x.1 = [.v (.int .i64 k)] ∧ x.2 = 0) ∧ x.1.length = 1) → ∃ vs : List Int, vs.length = l.length ∧ (∀ i, i < l.length → (l.getD i ([], 0)).1 = [i64 (vs.getD i 0)]) ∧ ∀ k ∈ vs, In64 k
  | [], _ => ⟨[], rfl, fun i hi => by simp at hi, fun k hk => by cases hk⟩
  | x :: l, h => by
    obtain ⟨vs, h2, h3, h4⟩ := ints_of l (fun y hy => h y (List.mem_cons_of_mem _ hy))
    obtain ⟨⟨k, h6, h7, _⟩, _⟩ := h x List.mem_cons_self
    refine ⟨k :: vs, by simp [h2], fun i hi => ?_, fun q hq => ?_⟩
    · match i, hi with
      | 0, _ => exact h7
      | i + 1, hi => exact h3 i (by simpa using hi)
    · rcases List.mem_cons.1 hq with rfl | hq
      · exact h6
      · exact h4 q hq
theorem opn_ints (N : Nat) : Opn (cx Tryd.prog mixed tyT_ok E) N 22 (fun ds n => ∃ d : DD, ds = [d] ∧ ∃ l : List Int, d = .sl 1 8 l.length (fun i _ => i64 (l.getD i 0)) ∧ l.length ≤ 100000000000000 ∧ ∀ k ∈ l, In64 k) := by
  refine Opn.le (Opn.mono (opn_slice (X := (cx Tryd.prog mixed tyT_ok E)) (N := N) Tryd.underlying22 (by kernel_rfl) (opn_int (X := (cx Tryd.prog mixed tyT_ok E)) Tryd.underlying3)) ?_) (Nat.le_succ _)
  rintro ds n ⟨l, hl, hb, rfl, rfl⟩
  obtain ⟨vs, h2, h3, h4⟩ := ints_of l hl
  have hb2 : l.length * 8 ≤ 140737488351232 := hb
  refine ⟨_, _, ⟨_, rfl, vs, rfl, by omega, h4⟩, Nat.le_refl _, ⟨?_, trivial⟩⟩
  refine Dle.sl (X := (cx Tryd.prog mixed tyT_ok E)) (show l.length = vs.length from h2.symm) (fun i j hi hj => Dle.of_eq ?_)
  have hj : j < 1 := hj
  obtain rfl : j = 0 := by omega
  rw [h3 i hi]
  rfl
end
end ints
end Go.Proofs.YtagggnjcpjodjaaDoor
