/-
  conf.Schema as an argument.
-/
import Derived.Test.YtjbgafbijamckaaGreatDoorPV
import Derived.Test.YtjbgafbijamckaaGreatDoorK0
namespace Go.Proofs.YtjbgafbijamckaaGreatDoor
open Go.RowKit
set_option linter.unusedVariables false
def Fd.wt (f : Fd) : Nat := f.route.size + 1 + (f.oneOf.map fun s => s.size + 1).sum + f.dflt.wt
section
variable (E : Env)
theorem fcell_eq (f : Fd) (j : Nat) (hj : j < 13) : (encF f).cells.getD j .opq = f.cell j := by
  match j, hj with
  | 0, _ => rfl
  | 1, _ => rfl
  | 2, _ => rfl
  | 3, _ => rfl
  | 4, _ => rfl
  | 5, _ => rfl
  | 6, _ => rfl
  | 7, _ => rfl
  | 8, _ => rfl
  | 9, _ => rfl
  | 10, _ => rfl
  | 11, _ => rfl
  | 12, _ => rfl
theorem fields_of : ∀ (l : List (List DD × Nat)), (∀ x ∈ l, (∃ f : Fd, x.1 = (encF f).cells ∧ f.wt ≤ x.2) ∧ x.1.length = 13) → ∃ fs : List Fd, fs.length = l.length ∧ (∀ i, i < l.length → (l.getD i ([], 0)).1 = (encF (fs.getD i default)).cells) ∧ (fs.map Fd.wt).sum ≤ (l.map (·.2)).sum
  | [], _ => ⟨[], rfl, fun i hi => by simp at hi, Nat.zero_le _⟩
  | x :: l, h => by
    obtain ⟨vs, h2, h3, h4⟩ := fields_of l (fun y hy => h y (List.mem_cons_of_mem _ hy))
    obtain ⟨⟨v, h6, h7⟩, _⟩ := h x List.mem_cons_self
    refine ⟨v :: vs, by simp [h2], fun i hi => ?_, ?_⟩
    · match i, hi with
      | 0, _ => exact h6
      | i + 1, hi => exact h3 i (by simpa using hi)
    · simp only [List.map_cons, List.sum_cons]
      omega
theorem opn_field (N : Nat) : Opn (cx Tryz.prog mixed tyT_ok E) N 58 (fun ds n => ∃ f : Fd, ds = (encF f).cells ∧ f.wt ≤ n) := by
  refine Opn.le (Opn.mono (opn_struct (X := (cx Tryz.prog mixed tyT_ok E)) (N := N) Tryz.underlying58 (by kernel_rfl) (by kernel_rfl) (by kernel_rfl) (Rs := [_, _, _, _, _, _, _, _])
    ⟨opn_str (X := (cx Tryz.prog mixed tyT_ok E)) Tryz.underlying9, opn_int (X := (cx Tryz.prog mixed tyT_ok E)) Tryz.underlying3, opn_bool (X := (cx Tryz.prog mixed tyT_ok E)) Tryz.underlying4, opn_bool (X := (cx Tryz.prog mixed tyT_ok E)) Tryz.underlying4, opn_int (X := (cx Tryz.prog mixed tyT_ok E)) Tryz.underlying3, opn_int (X := (cx Tryz.prog mixed tyT_ok E)) Tryz.underlying3,
      opn_strs E Tryz.underlying23 Tryz.underlying9 (by kernel_rfl) (by kernel_rfl) (by kernel_rfl), opn_val E N, trivial⟩) ?_) (Nat.le_succ _)
  rintro ds n ⟨_, _, _, _, ⟨s, hs, rfl, rfl⟩, ⟨_, _, _, _, ⟨k, hk, rfl, rfl⟩, ⟨_, _, _, _, ⟨b, rfl, rfl⟩, ⟨_, _, _, _, ⟨b2, rfl, rfl⟩, ⟨_, _, _, _, ⟨lo, hlo, rfl, rfl⟩, ⟨_, _, _, _, ⟨hi, hhi, rfl, rfl⟩, ⟨_, _, _, _, ⟨ks, rfl, rfl⟩, ⟨_, _, _, _, ⟨v, hv, rfl, hvw⟩, ⟨rfl, rfl⟩, rfl, rfl⟩, rfl, rfl⟩, rfl, rfl⟩, rfl, rfl⟩, rfl, rfl⟩, rfl, rfl⟩, rfl, rfl⟩, rfl, rfl⟩
  refine ⟨_, _, ⟨⟨s, k, b, b2, lo, hi, ks, v⟩, rfl, Nat.le_refl _⟩, ?_, ⟨Dle.refl _ _, Dle.refl _ _, Dle.refl _ _, Dle.refl _ _, Dle.refl _ _, Dle.refl _ _, Dle.refl _ _, Dle.refl _ _, Dle.refl _ _, Dle.refl _ _, Dle.refl _ _, Dle.refl _ _, Dle.refl _ _, trivial⟩⟩
  simp only [Fd.wt]
  omega
theorem opn_fields2 (N : Nat) : Opn (cx Tryz.prog mixed tyT_ok E) N 34 (fun ds n => ∃ l : List Fd, ds = [encFs l] ∧ (l.map Fd.wt).sum ≤ n) := by
  refine Opn.le (Opn.mono (opn_slice (X := (cx Tryz.prog mixed tyT_ok E)) Tryz.underlying34 (by kernel_rfl) (opn_field E N)) ?_) (Nat.le_succ _)
  rintro ds n ⟨l, hl, hb, rfl, rfl⟩
  obtain ⟨vs, h2, h3, h4⟩ := fields_of l hl
  refine ⟨_, _, ⟨vs, rfl, h4⟩, Nat.le_refl _, ⟨?_, trivial⟩⟩
  refine Dle.sl (X := (cx Tryz.prog mixed tyT_ok E)) (show l.length = vs.length from h2.symm) (fun i j hi hj => Dle.of_eq ?_)
  rw [h3 i hi]
  exact fcell_eq _ _ hj
theorem opn_schema (N : Nat) : Opn (cx Tryz.prog mixed tyT_ok E) N 36 (fun ds n => ∃ (l : List Fd) (b : Bool), ds = [encFs l, dB b] ∧ (l.map Fd.wt).sum ≤ n) := by
  refine Opn.le (Opn.mono (opn_struct (X := (cx Tryz.prog mixed tyT_ok E)) (N := N) Tryz.underlying36 (by kernel_rfl) (by kernel_rfl) (by kernel_rfl) (Rs := [_, _])
    ⟨opn_fields2 E N, opn_bool (X := (cx Tryz.prog mixed tyT_ok E)) Tryz.underlying4, trivial⟩) ?_) (Nat.le_succ _)
  rintro ds n ⟨_, _, _, _, ⟨l, rfl, hl⟩, ⟨_, _, _, _, ⟨b, rfl, rfl⟩, ⟨rfl, rfl⟩, rfl, rfl⟩, rfl, rfl⟩
  exact ⟨_, _, ⟨l, b, rfl, hl⟩, Nat.le_refl _, ⟨Dle.refl _ _, Dle.refl _ _, trivial⟩⟩
theorem fd_len : ∀ l : List Fd, l.length ≤ (l.map Fd.wt).sum
  | [] => Nat.zero_le _
  | f :: l => by
    have := fd_len l
    simp only [List.length_cons, List.map_cons, List.sum_cons, Fd.wt]
    omega
theorem fd_mem : ∀ (l : List Fd) (f : Fd), f ∈ l → f.wt ≤ (l.map Fd.wt).sum
  | g :: l, f, h => by
    simp only [List.map_cons, List.sum_cons]
    rcases List.mem_cons.1 h with rfl | h
    · omega
    · have := fd_mem l f h; omega
end
end Go.Proofs.YtjbgafbijamckaaGreatDoor
