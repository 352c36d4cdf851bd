/-
  lang.Rule as an argument.
-/
import Derived.Test.YtagggnjcpjodjaaDoorP
import Derived.Test.YtagggnjcpjodjaaDoorZ5
namespace Go.Proofs.YtagggnjcpjodjaaDoor
open Go.RowKit
set_option linter.unusedVariables false
namespace rule
theorem bulk_pos {H : Type} (y : DataW H) : 1 ≤ Rows.uptoBulk y := by
  cases y with
  | lit l => cases l <;> simp only [Rows.uptoBulk] <;> omega
  | _ => simp only [Rows.uptoBulk] <;> omega
section
variable (E : Env)
theorem opn_int1 {N : Nat} {t : TypeId} (ht : Tryd.prog.underlying t = some (.int .i64)) : Opn (cx Tryd.prog mixed tyT_ok E) N t (fun ds n => ∃ k, In64 k ∧ ds = [.v (.int .i64 k)] ∧ n = 1) := by
  intro H enc W fu hf cs y z hy hs
  obtain ⟨k, rfl, hk⟩ := rdg_i64 (P := Tryd.prog) ht (⟨fu, _, hy, hs⟩ : Rdg enc Tryd.prog W t cs)
  exact ⟨_, _, ⟨k, hk, rfl, rfl⟩, bulk_pos y, repc_cell rfl (.v rfl)⟩
/-- Readings of tests, one by one. -/
theorem tests_of : ∀ (l : List (List DD × Nat)), (∀ x ∈ l, (∃ c : Ts, opI c ∧ x.1 = (encT c).cells ∧ tcnt c ≤ x.2) ∧ x.1.length = 5) → ∃ cs : List Ts, opIL cs ∧ cs.length = l.length ∧ (∀ i, i < l.length → (l.getD i ([], 0)).1 = (encT (cs.getD i .zero)).cells) ∧ tcntL cs ≤ (l.map (·.2)).sum
  | [], _ => ⟨[], by simp [opIL], rfl, fun i hi => by simp at hi, by simp [tcntL]⟩
  | x :: l, h => by
    obtain ⟨vs, h1, h2, h3, h4⟩ := tests_of l (fun y hy => h y (List.mem_cons_of_mem _ hy))
    obtain ⟨⟨v, h5, h6, h7⟩, _⟩ := h x List.mem_cons_self
    refine ⟨v :: vs, by simp only [opIL]; exact ⟨h5, h1⟩, by simp [h2], fun i hi => ?_, ?_⟩
    · match i, hi with
      | 0, _ => exact h6
      | i + 1, hi => exact h3 i (by simpa using hi)
    · simp only [tcntL, List.map_cons, List.sum_cons]
      omega
theorem tcell_eq (v : Ts) (j : Nat) (hj : j < 5) : (encT v).cells.getD j .opq = v.cell j := by
  match j, hj with
  | 0, _ => rfl
  | 1, _ => rfl
  | 2, _ => rfl
  | 3, _ => rfl
  | 4, _ => rfl
theorem opn_tests {N : Nat} (h : Opn (cx Tryd.prog mixed tyT_ok E) N 47 (fun ds n => ∃ c : Ts, opI c ∧ ds = (encT c).cells ∧ tcnt c ≤ n)) :
    Opn (cx Tryd.prog mixed tyT_ok E) (N + 1) 27 (fun ds n => ∃ l : List Ts, opIL l ∧ ds = [.rc (.tests l)] ∧ tcntL l ≤ n) := by
  refine Opn.mono (opn_slice (X := (cx Tryd.prog mixed tyT_ok E)) Tryd.underlying27 (by kernel_rfl) h) ?_
  rintro ds n ⟨l, hl, hb, rfl, rfl⟩
  obtain ⟨vs, h1, h2, h3, h4⟩ := tests_of l hl
  refine ⟨_, _, ⟨vs, h1, rfl, h4⟩, Nat.le_refl _, ⟨Dle.rc (X := (cx Tryd.prog mixed tyT_ok E)) ?_, trivial⟩⟩
  refine Dle.sl (X := (cx Tryd.prog mixed tyT_ok E)) (show l.length = vs.length from h2.symm) (fun i j hi hj => Dle.of_eq ?_)
  rw [h3 i hi]
  exact tcell_eq _ _ hj
theorem opn_test : ∀ N, Opn (cx Tryd.prog mixed tyT_ok E) N 47 (fun ds n => ∃ c : Ts, opI c ∧ ds = (encT c).cells ∧ tcnt c ≤ n)
  | 0 => opn_zero
  | N + 1 => by
    refine Opn.mono (opn_struct (X := (cx Tryd.prog mixed tyT_ok E)) (N := N) Tryd.underlying47 (by kernel_rfl) (by kernel_rfl) (by kernel_rfl) (Rs := [_, _, _, _, _])
      ⟨opn_int1 E Tryd.underlying3, opn_int (X := (cx Tryd.prog mixed tyT_ok E)) Tryd.underlying3, opn_int (X := (cx Tryd.prog mixed tyT_ok E)) Tryd.underlying3, opn_int (X := (cx Tryd.prog mixed tyT_ok E)) Tryd.underlying3, Opn.le (opn_tests E (opn_test N)) (Nat.le_succ _), trivial⟩) ?_
    rintro ds n ⟨_, _, _, _, ⟨o, ho, rfl, rfl⟩, ⟨_, _, _, _, ⟨a, _, rfl, rfl⟩, ⟨_, _, _, _, ⟨b, _, rfl, rfl⟩, ⟨_, _, _, _, ⟨c, _, rfl, rfl⟩, ⟨_, _, _, _, ⟨l, hl, rfl, hw⟩, ⟨rfl, rfl⟩, rfl, rfl⟩, rfl, rfl⟩, rfl, rfl⟩, rfl, rfl⟩, rfl, rfl⟩
    refine ⟨_, _, ⟨.mk o a b c l, by simp only [opI]; exact ⟨ho, hl⟩, rfl, Nat.le_refl _⟩, ?_, ⟨Dle.refl _ _, Dle.refl _ _, Dle.refl _ _, Dle.refl _ _, Dle.refl _ _, trivial⟩⟩
    rw [tcnt_eq]
    simp only [Ts.kids]
    omega
theorem opn_rule (N : Nat) : Opn (cx Tryd.prog mixed tyT_ok E) N 29 (fun ds n => ∃ l : List Ts, opIL l ∧ ds = [.rc (.tests l)] ∧ tcntL l ≤ n) := by
  refine Opn.le (Opn.mono (opn_struct (X := (cx Tryd.prog mixed tyT_ok E)) (N := N + 1) Tryd.underlying29 (by kernel_rfl) (by kernel_rfl) (by kernel_rfl) (Rs := [_]) ⟨opn_tests E (opn_test E N), trivial⟩) ?_) (by omega)
  rintro ds n ⟨_, _, _, _, ⟨l, hl, rfl, hw⟩, ⟨rfl, rfl⟩, rfl, rfl⟩
  exact ⟨_, _, ⟨l, hl, rfl, hw⟩, Nat.le_refl _, ⟨Dle.refl _ _, trivial⟩⟩
end
end rule
end Go.Proofs.YtagggnjcpjodjaaDoor
