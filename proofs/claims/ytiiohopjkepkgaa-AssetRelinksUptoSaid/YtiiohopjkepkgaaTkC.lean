/-
  Tokens: both sides; the law.
-/
import Derived.Test.YtiiohopjkepkgaaTkB
namespace Go.Proofs.Ytiiohopjkepkgaa
open Go.RowKit
set_option linter.unusedVariables false
set_option linter.unusedSimpArgs false
namespace tk
section
variable (E : Env)
set_option maxRecDepth 100000
theorem tokensOf_sp (hML : ∀ w, E.G w → ML w) (s : ByteArray) (sc : Bool) : Sp (cx Try.prog mixed tyT_ok E) 11 [dS s, dB sc] (encPs (toksE s sc)) := by
  obtain ⟨r, hr⟩ : ∃ r, r = toksE s sc := ⟨_, rfl⟩
  rw [← hr]
  unfold toksE at hr
  by_cases h : 20000 < s.size
  · rw [if_pos h] at hr
    refine Sp.body Try.func11 (by kernel_rfl) rfl (by kernel_rfl) (by kernel_rfl) (by kernel_rfl) ?_
    repeat' first
      | (refine facW_intro ?_; intro _)
      | refine Or.inl ?_
      | ((conv => whnf); first | (refine condW_dec ?_ ?_ <;> intro _ <;> try (exfalso; omega)) | refine condW_not ?_ | (refine condW_bool ?_ ?_ <;> intro _ <;> try (exfalso; omega)) | (refine nbC_t (fun _ => ?_) ?_) | (refine nbC_f ?_ (fun _ => ?_)))
      | refine And.intro (by first | omega | (simp only [Int.toNat_natCast] at *; omega) | (simp only [Nat.reduceAdd, Int.cast_ofNat_Int, true_and, and_true]; omega) | kernel_rfl) ?_
      | refine RegW.run ?_
      | fail
    all_goals first
      | exact dle_errP E hr
      | trace_state
  · rw [if_neg h] at hr
    have h1 := tokensIn_sp E hML s (by omega) sc
    rw [← hr] at h1
    unfold encPs at h1
    refine Sp.body Try.func11 (by kernel_rfl) rfl (by kernel_rfl) (by kernel_rfl) (by kernel_rfl) ?_
    repeat' first
      | (refine facW_intro ?_; intro _)
      | refine Or.inl ?_
      | ((conv => whnf); first | (refine condW_dec ?_ ?_ <;> intro _ <;> try (exfalso; omega)) | refine condW_not ?_ | (refine condW_bool ?_ ?_ <;> intro _ <;> try (exfalso; omega)) | (refine nbC_t (fun _ => ?_) ?_) | (refine nbC_f ?_ (fun _ => ?_)))
      | refine And.intro (by first | omega | (simp only [Int.toNat_natCast] at *; omega) | (simp only [Nat.reduceAdd, Int.cast_ofNat_Int, true_and, and_true]; omega) | kernel_rfl) ?_
      | refine RegW.run ?_
      | refine ⟨_, h1, ?_⟩
      | fail
    all_goals first
      | exact Dle.refl _ _
      | trace_state
end
end tk
end Go.Proofs.Ytiiohopjkepkgaa
