/-
  list.Cond as an argument.
-/
import Derived.Test.YtnealjgndobknaaDoorPV
import Derived.Test.YtnealjgndobknaaDoorW3
namespace Go.Proofs.YtnealjgndobknaaDoor
open Go.RowKit
set_option linter.unusedVariables false
set_option linter.unusedSimpArgs false
section
variable (E : Env)
/-- Readings of conditions, one by one. -/
theorem conds_of : ∀ (l : List (List DD × Nat)), (∀ x ∈ l, (∃ c : Cd, x.1 = (encC c).cells ∧ c.wt ≤ x.2) ∧ x.1.length = 9) → ∃ cs : List Cd, cs.length = l.length ∧ (∀ i, i < l.length → (l.getD i ([], 0)).1 = (encC (cs.getD i .zero)).cells) ∧ Cd.wtL cs ≤ (l.map (·.2)).sum
  | [], _ => ⟨[], rfl, fun i hi => by simp at hi, Nat.zero_le _⟩
  | x :: l, h => by
    obtain ⟨vs, h2, h3, h4⟩ := conds_of l (fun y hy => h y (List.mem_cons_of_mem _ hy))
    obtain ⟨⟨v, h6, h7⟩, _⟩ := h x List.mem_cons_self
    refine ⟨v :: vs, by simp [h2], fun i hi => ?_, ?_⟩
    · match i, hi with
      | 0, _ => exact h6
      | i + 1, hi => exact h3 i (by simpa using hi)
    · simp only [Cd.wtL, List.map_cons, List.sum_cons]
      omega
theorem ccell_eq (v : Cd) (j : Nat) (hj : j < 9) : (encC v).cells.getD j .opq = v.cell j := by
  match j, hj with
  | 0, _ => rfl
  | 1, _ => rfl
  | 2, _ => rfl
  | 3, _ => rfl
  | 4, _ => rfl
  | 5, _ => rfl
  | 6, _ => rfl
  | 7, _ => rfl
  | 8, _ => rfl
theorem opn_conds {N : Nat} (h : Opn (cx Tryd.prog mixed tyT_ok E) N 28 (fun ds n => ∃ c : Cd, ds = (encC c).cells ∧ c.wt ≤ n)) :
    Opn (cx Tryd.prog mixed tyT_ok E) (N + 1) 26 (fun ds n => ∃ d : DD, ds = [d] ∧ ∃ l : List Cd, d = .rc (.conds l) ∧ Cd.wtL l ≤ n) := by
  refine Opn.mono (opn_slice (X := (cx Tryd.prog mixed tyT_ok E)) Tryd.underlying26 (by kernel_rfl) h) ?_
  rintro ds n ⟨l, hl, hb, rfl, rfl⟩
  obtain ⟨vs, h2, h3, h4⟩ := conds_of l hl
  refine ⟨_, _, ⟨_, rfl, vs, rfl, h4⟩, Nat.le_refl _, ⟨Dle.rc (X := (cx Tryd.prog mixed tyT_ok E)) ?_, trivial⟩⟩
  refine Dle.sl (X := (cx Tryd.prog mixed tyT_ok E)) (show l.length = vs.length from h2.symm) (fun i j hi hj => Dle.of_eq ?_)
  rw [h3 i hi]
  exact ccell_eq _ _ hj
theorem opn_cond : ∀ N, Opn (cx Tryd.prog mixed tyT_ok E) N 28 (fun ds n => ∃ c : Cd, ds = (encC c).cells ∧ c.wt ≤ n)
  | 0 => opn_zero
  | N + 1 => by
    refine Opn.mono (opn_struct (X := (cx Tryd.prog mixed tyT_ok E)) (N := N) Tryd.underlying28 (by kernel_rfl) (by kernel_rfl) (by kernel_rfl) (Rs := [_, _, _, _])
      ⟨opn_int (X := (cx Tryd.prog mixed tyT_ok E)) Tryd.underlying3, opn_str (X := (cx Tryd.prog mixed tyT_ok E)) Tryd.underlying9, opn_val E N, Opn.le (opn_conds E (opn_cond N)) (Nat.le_succ _), trivial⟩) ?_
    rintro ds n ⟨_, _, _, _, ⟨k, hk, rfl, rfl⟩, ⟨_, _, _, _, ⟨s, hs, rfl, rfl⟩, ⟨_, _, _, _, ⟨v, hv, rfl, hvw⟩, ⟨_, _, _, _, ⟨_, rfl, l, rfl, hw⟩, ⟨rfl, rfl⟩, rfl, rfl⟩, rfl, rfl⟩, rfl, rfl⟩, rfl, rfl⟩
    refine ⟨_, _, ⟨.mk k s v l, rfl, Nat.le_refl _⟩, ?_, ⟨Dle.refl _ _, Dle.refl _ _, Dle.refl _ _, Dle.refl _ _, Dle.refl _ _, Dle.refl _ _, Dle.refl _ _, Dle.refl _ _, Dle.refl _ _, trivial⟩⟩
    simp only [Cd.wt]
    omega
end
end Go.Proofs.YtnealjgndobknaaDoor
