/-
  The reference's Step, Follow, GetOf.
-/
import Derived.Test.YtocehfhhmljejaaGreatDoorS5
namespace Go.Proofs.YtocehfhhmljejaaGreatDoor
open Go.RowKit
set_option linter.unusedVariables false
set_option linter.unusedSimpArgs false
def idxS (l : List ByteArray) (x : ByteArray) (k : Nat) : Int := if k < l.length then (if x = l.getD k ⟨#[]⟩ then (k : Int) else idxS l x (k + 1)) else -1
  termination_by l.length - k
theorem idxS_end {l : List ByteArray} {x : ByteArray} {k : Nat} (h : ¬ k < l.length) : idxS l x k = -1 := by rw [idxS, if_neg h]
theorem idxS_at {l : List ByteArray} {x : ByteArray} {k : Nat} (h : k < l.length) (h2 : x = l.getD k ⟨#[]⟩) : idxS l x k = k := by rw [idxS, if_pos h, if_pos h2]
theorem idxS_next {l : List ByteArray} {x : ByteArray} {k : Nat} (h : k < l.length) (h2 : ¬ x = l.getD k ⟨#[]⟩) : idxS l x k = idxS l x (k + 1) := by rw [idxS, if_pos h, if_neg h2]
theorem idxS_spec (l : List ByteArray) (x : ByteArray) : ∀ (n k : Nat), l.length - k < n → (idxS l x k = -1 ∧ ∀ i, k ≤ i → i < l.length → ¬ x = l.getD i ⟨#[]⟩) ∨ ∃ m, idxS l x k = (m : Nat) ∧ m < l.length ∧ x = l.getD m ⟨#[]⟩
  | 0, k, h => by omega
  | n + 1, k, h => by
    rcases Nat.lt_or_ge k l.length with h1 | h1
    · by_cases h2 : x = l.getD k ⟨#[]⟩
      · exact .inr ⟨k, idxS_at h1 h2, h1, h2⟩
      · rw [idxS_next h1 h2]
        rcases idxS_spec l x n (k + 1) (by omega) with ⟨h3, h4⟩ | h3
        · refine .inl ⟨h3, fun i hi hil => ?_⟩
          rcases Nat.lt_or_ge k i with h5 | h5
          · exact h4 i h5 hil
          · obtain rfl : i = k := by omega
            exact h2
        · exact .inr h3
    · exact .inl ⟨idxS_end (by omega), fun i hi hil => by omega⟩
section
variable (E : Env)
set_option maxRecDepth 100000
theorem index_sp (l : List ByteArray) (x : ByteArray) : Sp (cx Tryz.prog mixed tyT_ok E) 44 [encStrs l, dS x] (i64 (idxS l x 0)) := by
  obtain ⟨r, hr⟩ : ∃ r, r = idxS l x 0 := ⟨_, rfl⟩
  rw [← hr]
  refine Sp.body Tryz.func44 (by kernel_rfl) rfl (by kernel_rfl) (by kernel_rfl) (by kernel_rfl) ?_
  repeat' first
    | (refine facW_intro ?_; intro _)
    | refine Or.inl ?_
    | ((conv => whnf); first | (refine condW_dec ?_ ?_ <;> intro _) | refine condW_not ?_ | (refine condW_bool ?_ ?_ <;> intro _) | (refine nbC_t (fun _ => ?_) ?_) | (refine nbC_f ?_ (fun _ => ?_)))
    | refine And.intro (by first | omega | (simp only [Int.toNat_natCast] at *; omega) | (simp only [Nat.reduceAdd, Int.cast_ofNat_Int, true_and, and_true]; omega)  | kernel_rfl) ?_
    | refine RegW.run ?_
    | fail
  refine ⟨Nat, fun k => [(8, i64 k)], fun k => [], [], fun k => [], fun k => k ≤ l.length ∧ r = idxS l x k, fun k => l.length - k, ⟨0, ⟨by omega, hr⟩, ⟨[], ⟨by kernel_rfl, by kernel_rfl, by kernel_rfl, by kernel_rfl, by kernel_rfl, by kernel_rfl, by kernel_rfl⟩, (by repeat' first | exact trivial | exact rfl | kernel_rfl | exact Dle.of_eq rfl | exact MLe.of_eq rfl | exact Dle.i (by omega) | exact Dle.i (by simp only [Int.toNat_natCast] at *; omega) | exact Dle.nil | exact Dle.rc Dle.nil | exact Option.some_ne_none _ | exact Or.inl rfl | exact Or.inr trivial | omega | (simp only [Int.toNat_natCast] at *; omega) | (intro _ _ _ _; exact Dle.of_eq rfl) | refine And.intro ?_ ?_)⟩⟩, fun k hk => ?_⟩
  obtain ⟨hk, hK⟩ := hk
  repeat' first
    | (refine facW_intro ?_; intro _)
    | refine Or.inl ?_
    | ((conv => whnf); first | (refine condW_dec ?_ ?_ <;> intro _) | refine condW_not ?_ | (refine condW_bool ?_ ?_ <;> intro _) | (refine nbC_t (fun _ => ?_) ?_) | (refine nbC_f ?_ (fun _ => ?_)))
    | refine And.intro (by first | omega | (simp only [Int.toNat_natCast] at *; omega) | (simp only [Nat.reduceAdd, Int.cast_ofNat_Int, true_and, and_true]; omega)  | kernel_rfl) ?_
    | refine RegW.run ?_
    | fail
  all_goals first
    | exact ⟨k + 1, ⟨by omega, by rw [hK, idxS_next (by omega) (by simp only [Int.toNat_natCast] at *; first | assumption | (rw [show ((k : Int) - 1).toNat = k - 1 by omega] at *; assumption))]⟩, ⟨[], ⟨by kernel_rfl, by kernel_rfl, by kernel_rfl, by kernel_rfl, by kernel_rfl, by kernel_rfl, by kernel_rfl⟩, (by repeat' first | exact trivial | exact rfl | kernel_rfl | exact Dle.of_eq rfl | exact MLe.of_eq rfl | exact Dle.i (by omega) | exact Dle.i (by simp only [Int.toNat_natCast] at *; omega) | exact Dle.nil | exact Dle.rc Dle.nil | exact Option.some_ne_none _ | exact Or.inl rfl | exact Or.inr trivial | omega | (simp only [Int.toNat_natCast] at *; omega) | (intro _ _ _ _; exact Dle.of_eq rfl) | refine And.intro ?_ ?_)⟩, by first | omega | (dsimp only; omega)⟩
    | exact Dle.i (by rw [hK, idxS_at (by omega) (by simp only [Int.toNat_natCast] at *; first | assumption | (rw [show ((k : Int) - 1).toNat = k - 1 by omega] at *; assumption))])
    | exact Dle.i (by rw [hK, idxS_end (by omega)])
    | trace_state
end
end Go.Proofs.YtocehfhhmljejaaGreatDoor
