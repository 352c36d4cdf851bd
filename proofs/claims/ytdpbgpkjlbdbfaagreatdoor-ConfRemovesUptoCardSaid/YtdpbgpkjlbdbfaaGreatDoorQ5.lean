/-
  conf.valueFault and its reference parts: what is wrong with a value; counts.
-/
import Derived.Test.YtdpbgpkjlbdbfaaGreatDoorQ3
namespace Go.Proofs.YtdpbgpkjlbdbfaaGreatDoor
open Go.RowKit
set_option linter.unusedVariables false
set_option linter.unusedSimpArgs false

/-- What is wrong with keys from an index on. -/
def keysFrom (l : List ByteArray) (k : Nat) : Int :=
  if k < l.length then
    (if keyOkB (l.getD k ⟨#[]⟩) = true then
      (if 0 < k ∧ (strLt (l.getD k ⟨#[]⟩) (l.getD (k - 1) ⟨#[]⟩) || decide (l.getD k ⟨#[]⟩ = l.getD (k - 1) ⟨#[]⟩)) = true then 5 else keysFrom l (k + 1)) else 12) else 0
  termination_by l.length - k
theorem keysFrom_end {l : List ByteArray} {k : Nat} (h : ¬ k < l.length) : keysFrom l k = 0 := by rw [keysFrom, if_neg h]
theorem keysFrom_name {l : List ByteArray} {k : Nat} (h : k < l.length) (h1 : keyOkB (l.getD k ⟨#[]⟩) = false) : keysFrom l k = 12 := by rw [keysFrom, if_pos h, h1]; rfl
theorem keysFrom_order {l : List ByteArray} {k : Nat} (h : k < l.length) (h1 : keyOkB (l.getD k ⟨#[]⟩) = true) (h2 : 0 < k) (h3 : (strLt (l.getD k ⟨#[]⟩) (l.getD (k - 1) ⟨#[]⟩) || decide (l.getD k ⟨#[]⟩ = l.getD (k - 1) ⟨#[]⟩)) = true) : keysFrom l k = 5 := by rw [keysFrom, if_pos h, if_pos h1, if_pos ⟨h2, h3⟩]
theorem keysFrom_next0 {l : List ByteArray} {k : Nat} (h : k < l.length) (h1 : keyOkB (l.getD k ⟨#[]⟩) = true) (h2 : ¬ 0 < k) : keysFrom l k = keysFrom l (k + 1) := by
  rw [keysFrom, if_pos h, if_pos h1, if_neg (fun h => h2 h.1)]
theorem keysFrom_next {l : List ByteArray} {k : Nat} (h : k < l.length) (h1 : keyOkB (l.getD k ⟨#[]⟩) = true) (h3 : (strLt (l.getD k ⟨#[]⟩) (l.getD (k - 1) ⟨#[]⟩) || decide (l.getD k ⟨#[]⟩ = l.getD (k - 1) ⟨#[]⟩)) = false) : keysFrom l k = keysFrom l (k + 1) := by
  rw [keysFrom, if_pos h, if_pos h1, if_neg (fun h => by rw [h3] at h; cases h.2)]
/-- What is wrong with a value, its items left out. -/
def headE (v : Vu) : Int :=
  if v.kind < 0 ∨ 6 < v.kind then 10 else if unusedP v then 1 else if v.kind = 4 ∧ badDayP v.i then 2 else if 5000 < v.text.size then 4 else if badStr v.text = true then 9 else keysFrom v.keys 0
section
variable (E : Env)
set_option maxRecDepth 100000
set_option maxHeartbeats 1000000 in
theorem valueFault_sp (v : Vu) : Sp (cx Tryz.prog mixed tyT_ok E) 192 [encV v] (i64 (headE v)) := by
  refine Sp.body Tryz.func192 (by kernel_rfl) rfl (by kernel_rfl) (by kernel_rfl) (by kernel_rfl) ?_
  repeat' first
    | (refine facW_intro ?_; intro _)
    | refine Or.inl ?_
    | ((conv => whnf); first | (refine condW_dec ?_ ?_ <;> intro _) | refine condW_not ?_ | (refine condW_bool ?_ ?_ <;> intro _) | (refine nbC_t (fun _ => ?_) ?_) | (refine nbC_f ?_ (fun _ => ?_)))
    | refine And.intro (by first | omega | (simp only [Int.toNat_natCast] at *; omega) | (simp only [Nat.reduceAdd, Int.cast_ofNat_Int, true_and, and_true]; omega) | kernel_rfl) ?_
    | refine RegW.run ?_
    | refine ⟨_, unused_sp E v, ?_⟩
    | refine ⟨_, badDay_sp E _, ?_⟩
    | refine ⟨_, badBytes_sp E _, ?_⟩
    | fail
  all_goals first
    | exact Dle.i (by unfold headE; grind)
    | skip
  all_goals
    have hR : headE v = keysFrom v.keys 0 := by unfold headE; grind
    refine ⟨Nat, fun k => [(38, i64 k)], fun k => [], [1], fun k => [], fun k => k ≤ v.keys.length ∧ headE v = keysFrom v.keys k, fun k => v.keys.length - k, ⟨0, ⟨by omega, hR⟩, ⟨[], ⟨by kernel_rfl, by kernel_rfl, by kernel_rfl, by kernel_rfl, by kernel_rfl, by kernel_rfl, by kernel_rfl⟩, (by repeat' first | exact trivial | exact rfl | kernel_rfl | exact Dle.of_eq rfl | exact MLe.of_eq rfl | exact Dle.i (by omega) | exact Dle.i (by simp only [Int.toNat_natCast] at *; omega) | exact Dle.nil | exact Dle.rc Dle.nil | exact Option.some_ne_none _ | exact Or.inl rfl | exact Or.inr trivial | omega | (simp only [Int.toNat_natCast] at *; omega) | (intro _ _ _ _; exact Dle.of_eq rfl) | refine And.intro ?_ ?_)⟩⟩, fun k hk => ?_⟩
    obtain ⟨hk, hK⟩ := hk
  repeat' first
    | (refine facW_intro ?_; intro _)
    | refine Or.inl ?_
    | ((conv => whnf); first | (refine condW_dec ?_ ?_ <;> intro _) | refine condW_not ?_ | (refine condW_bool ?_ ?_ <;> intro _) | (refine nbC_t (fun _ => ?_) ?_) | (refine nbC_f ?_ (fun _ => ?_)))
    | refine And.intro (by first | omega | (simp only [Int.toNat_natCast] at *; omega) | (simp only [Nat.reduceAdd, Int.cast_ofNat_Int, true_and, and_true]; omega) | kernel_rfl) ?_
    | refine RegW.run ?_
    | refine ⟨_, isKey_sp E _, ?_⟩
    | fail
  all_goals first
    | exact Dle.i (by rw [hK, keysFrom_end (by omega)])
    | exact Dle.i (by rw [hK, keysFrom_name (by omega) (by simp only [Int.toNat_natCast] at *; first | assumption | (rw [show ((k : Int) - 1).toNat = k - 1 by omega] at *; assumption))])
    | exact Dle.i (by rw [hK, keysFrom_order (by omega) (by simp only [Int.toNat_natCast] at *; first | assumption | (rw [show ((k : Int) - 1).toNat = k - 1 by omega] at *; assumption)) (by omega) (by simp only [Int.toNat_natCast] at *; first | assumption | (rw [show ((k : Int) - 1).toNat = k - 1 by omega] at *; assumption))])
    | exact ⟨k + 1, ⟨by omega, by rw [hK, keysFrom_next0 (by omega) (by simp only [Int.toNat_natCast] at *; first | assumption | (rw [show ((k : Int) - 1).toNat = k - 1 by omega] at *; assumption)) (by omega)]⟩, ⟨[], ⟨by kernel_rfl, by kernel_rfl, by kernel_rfl, by kernel_rfl, by kernel_rfl, by kernel_rfl, by kernel_rfl⟩, (by repeat' first | exact trivial | exact rfl | kernel_rfl | exact Dle.of_eq rfl | exact MLe.of_eq rfl | exact Dle.i (by omega) | exact Dle.i (by simp only [Int.toNat_natCast] at *; omega) | exact Dle.nil | exact Dle.rc Dle.nil | exact Option.some_ne_none _ | exact Or.inl rfl | exact Or.inr trivial | omega | (simp only [Int.toNat_natCast] at *; omega) | (intro _ _ _ _; exact Dle.of_eq rfl) | refine And.intro ?_ ?_)⟩, by first | omega | (dsimp only; omega)⟩
    | exact ⟨k + 1, ⟨by omega, by rw [hK, keysFrom_next (by omega) (by simp only [Int.toNat_natCast] at *; first | assumption | (rw [show ((k : Int) - 1).toNat = k - 1 by omega] at *; assumption)) (by simp only [Int.toNat_natCast] at *; first | assumption | (rw [show ((k : Int) - 1).toNat = k - 1 by omega] at *; assumption))]⟩, ⟨[], ⟨by kernel_rfl, by kernel_rfl, by kernel_rfl, by kernel_rfl, by kernel_rfl, by kernel_rfl, by kernel_rfl⟩, (by repeat' first | exact trivial | exact rfl | kernel_rfl | exact Dle.of_eq rfl | exact MLe.of_eq rfl | exact Dle.i (by omega) | exact Dle.i (by simp only [Int.toNat_natCast] at *; omega) | exact Dle.nil | exact Dle.rc Dle.nil | exact Option.some_ne_none _ | exact Or.inl rfl | exact Or.inr trivial | omega | (simp only [Int.toNat_natCast] at *; omega) | (intro _ _ _ _; exact Dle.of_eq rfl) | refine And.intro ?_ ?_)⟩, by first | omega | (dsimp only; omega)⟩
    | trace_state
end
end Go.Proofs.YtdpbgpkjlbdbfaaGreatDoor
