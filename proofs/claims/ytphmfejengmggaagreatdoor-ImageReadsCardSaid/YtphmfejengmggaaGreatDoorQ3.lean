/-
  Fields that a kind does not use.
-/
import Derived.Test.YtphmfejengmggaaGreatDoorQ2
namespace Go.Proofs.YtphmfejengmggaaGreatDoor
open Go.RowKit
set_option linter.unusedVariables false
set_option linter.unusedSimpArgs false
/-- A field that a kind does not use is not zero. -/
def unusedP (v : Vu) : Prop :=
  (v.b = true ∧ v.kind ≠ 1) ∨ (v.i ≠ 0 ∧ v.kind ≠ 2 ∧ v.kind ≠ 4) ∨ (v.text ≠ ⟨#[]⟩ ∧ v.kind ≠ 3) ∨ (0 < v.items.length ∧ v.kind ≠ 5 ∧ v.kind ≠ 6) ∨ (0 < v.keys.length ∧ v.kind ≠ 6) ∨ (v.kind = 6 ∧ v.keys.length ≠ v.items.length)
instance (v : Vu) : Decidable (unusedP v) := by unfold unusedP; infer_instance
def badDayP (n : Int) : Prop := n < 0 ∨ 84005 < n
instance (n : Int) : Decidable (badDayP n) := by unfold badDayP; infer_instance
section
variable (E : Env)
set_option maxRecDepth 100000
theorem badDay_sp (n : Int) : Sp (cx Tryz.prog mixed tyT_ok E) 296 [i64 n] (dB (decide (badDayP n))) := by
  refine Sp.body Tryz.func296 (by kernel_rfl) rfl (by kernel_rfl) (by kernel_rfl) (by kernel_rfl) ?_
  repeat' first
    | (refine facW_intro ?_; intro _)
    | refine Or.inl ?_
    | ((conv => whnf); first | (refine condW_dec ?_ ?_ <;> intro _ <;> try (exfalso; omega)) | refine condW_not ?_ | (refine condW_bool ?_ ?_ <;> intro _ <;> try (exfalso; omega)) | (refine nbC_t (fun _ => ?_) ?_) | (refine nbC_f ?_ (fun _ => ?_)))
    | refine And.intro (by first | omega | (simp only [Int.toNat_natCast] at *; omega) | (simp only [Nat.reduceAdd, Int.cast_ofNat_Int, true_and, and_true]; omega) | kernel_rfl) ?_
    | refine RegW.run ?_
    | fail
  all_goals exact Dle.bo (by unfold badDayP; grind)
set_option maxHeartbeats 1000000 in
theorem unused_sp (v : Vu) : Sp (cx Tryz.prog mixed tyT_ok E) 295 [encV v] (dB (decide (unusedP v))) := by
  refine Sp.body Tryz.func295 (by kernel_rfl) rfl (by kernel_rfl) (by kernel_rfl) (by kernel_rfl) ?_
  repeat' first
    | (refine facW_intro ?_; intro _)
    | refine Or.inl ?_
    | ((conv => whnf); first | (refine condW_dec ?_ ?_ <;> intro _ <;> try (exfalso; omega)) | refine condW_not ?_ | (refine condW_bool ?_ ?_ <;> intro _ <;> try (exfalso; omega)) | (refine nbC_t (fun _ => ?_) ?_) | (refine nbC_f ?_ (fun _ => ?_)))
    | refine And.intro (by first | omega | (simp only [Int.toNat_natCast] at *; omega) | (simp only [Nat.reduceAdd, Int.cast_ofNat_Int, true_and, and_true]; omega) | kernel_rfl) ?_
    | refine RegW.run ?_
    | fail
  all_goals first
    | exact Dle.bo (by unfold unusedP; grind)
end
end Go.Proofs.YtphmfejengmggaaGreatDoor
