/-
  Rows of list.Key as arguments.
-/
import Derived.Test.YthoemnhigboahaaGreatDoorP
import Derived.Test.YthoemnhigboahaaGreatDoorPV
import Derived.Test.YthoemnhigboahaaGreatDoorSd1
namespace Go.Proofs.YthoemnhigboahaaGreatDoor
open Go.RowKit
set_option linter.unusedVariables false
namespace sb
section
variable (E : Env)
theorem keys_of : ∀ (l : List (List DD × Nat)), (∀ x ∈ l, (∃ t : ByteArray × Bool, x.1 = [dS t.1, dB t.2] ∧ t.1.size + 1 ≤ x.2) ∧ x.1.length = 2) → ∃ vs : List (ByteArray × Bool), vs.length = l.length ∧ (∀ i, i < l.length → (l.getD i ([], 0)).1 = [dS (vs.getD i (⟨#[]⟩, false)).1, dB (vs.getD i (⟨#[]⟩, false)).2]) ∧ (vs.map fun t => t.1.size + 1).sum ≤ (l.map (·.2)).sum
  | [], _ => ⟨[], rfl, fun i hi => by simp at hi, Nat.zero_le _⟩
  | x :: l, h => by
    obtain ⟨vs, h2, h3, h4⟩ := keys_of l (fun y hy => h y (List.mem_cons_of_mem _ hy))
    obtain ⟨⟨t, h6, h7⟩, _⟩ := h x List.mem_cons_self
    refine ⟨t :: vs, by simp [h2], fun i hi => ?_, ?_⟩
    · match i, hi with
      | 0, _ => exact h6
      | i + 1, hi => exact h3 i (by simpa using hi)
    · simp only [List.map_cons, List.sum_cons]
      omega
theorem opn_key (N : Nat) : Opn (cx Tryz.prog mixed tyT_ok E) N 127 (fun ds n => ∃ t : ByteArray × Bool, ds = [dS t.1, dB t.2] ∧ t.1.size + 1 ≤ n) := by
  refine Opn.le (Opn.mono (opn_struct (X := (cx Tryz.prog mixed tyT_ok E)) (N := N) Tryz.underlying127 (by kernel_rfl) (by kernel_rfl) (by kernel_rfl) (Rs := [_, _])
    ⟨opn_str (X := (cx Tryz.prog mixed tyT_ok E)) Tryz.underlying9, opn_bool (X := (cx Tryz.prog mixed tyT_ok E)) Tryz.underlying4, trivial⟩) ?_) (Nat.le_succ _)
  rintro ds n ⟨_, _, _, _, ⟨s, hs, rfl, rfl⟩, ⟨_, _, _, _, ⟨b, rfl, rfl⟩, ⟨rfl, rfl⟩, rfl, rfl⟩, rfl, rfl⟩
  refine ⟨_, _, ⟨(s, b), rfl, ?_⟩, Nat.le_refl _, ⟨Dle.refl _ _, Dle.refl _ _, trivial⟩⟩
  show s.size + 1 ≤ _
  omega
theorem opn_keys (N : Nat) : Opn (cx Tryz.prog mixed tyT_ok E) N 38 (fun ds n => ∃ d : DD, ds = [d] ∧ ∃ l : List (ByteArray × Bool), d = .sl 2 24 l.length (keyF l) ∧ (l.map fun t => t.1.size + 1).sum ≤ n) := by
  refine Opn.le (Opn.mono (opn_slice (X := (cx Tryz.prog mixed tyT_ok E)) Tryz.underlying38 (by kernel_rfl) (opn_key E N)) ?_) (Nat.le_succ _)
  rintro ds n ⟨l, hl, hb, rfl, rfl⟩
  obtain ⟨vs, h2, h3, h4⟩ := keys_of l hl
  refine ⟨_, _, ⟨_, rfl, vs, rfl, h4⟩, Nat.le_refl _, ⟨?_, trivial⟩⟩
  refine Dle.sl (X := (cx Tryz.prog mixed tyT_ok E)) (show l.length = vs.length from h2.symm) (fun i j hi hj => Dle.of_eq ?_)
  rw [h3 i hi]
  match j, hj with
  | 0, _ => rfl
  | 1, _ => rfl
theorem key_mem {l : List (ByteArray × Bool)} {k : ByteArray × Bool} (h : k ∈ l) : k.1.size ≤ (l.map fun t => t.1.size + 1).sum := by
  induction l with
  | nil => cases h
  | cons a l ih =>
    simp only [List.map_cons, List.sum_cons]
    rcases List.mem_cons.1 h with rfl | h
    · omega
    · have := ih h
      omega
theorem vlen_le : ∀ l : List Vu, l.length ≤ Vu.wtL l
  | [] => Nat.le_refl _
  | .mk k b i t l' ks :: r => by
    have h := vlen_le r
    simp only [List.length_cons, Vu.wtL, Vu.wt]
    omega
end
end sb
end Go.Proofs.YthoemnhigboahaaGreatDoor
