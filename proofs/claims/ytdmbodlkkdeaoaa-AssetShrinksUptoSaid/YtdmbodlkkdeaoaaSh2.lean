/-
  Tokens made smaller: needed, idle.
-/
import Derived.Test.YtdmbodlkkdeaoaaSh1
namespace Go.Proofs.Ytdmbodlkkdeaoaa
open Go.RowKit
set_option linter.unusedVariables false
set_option linter.unusedSimpArgs false
namespace sh
open bl tk
section
variable (E : Env)
set_option maxRecDepth 100000
theorem needed_sp (hML : ∀ w, E.G w → ML w) (k : Int) (s : List Tok) (i : Nat) (hi : i < s.length) : Sp (cx Try.prog mixed tyT_ok E) 51 [i64 k, encToks s, i64 i] (dB (needT k s i)) := by
  obtain ⟨q, hq⟩ : ∃ q, q = needT k s i := ⟨_, rfl⟩
  rw [← hq]
  unfold needT at hq
  by_cases h0 : i = 0 ∨ (i : Int) = (s.length : Int) - 1
  · rw [if_pos h0] at hq
    subst hq
    refine Sp.body Try.func51 (by kernel_rfl) rfl (by kernel_rfl) (by kernel_rfl) (by kernel_rfl) ?_
    repeat' first
      | (refine facW_intro ?_; intro _)
      | refine Or.inl ?_
      | ((conv => whnf); first | (refine condW_dec ?_ ?_ <;> intro _ <;> try (exfalso; omega)) | refine condW_not ?_ | (refine condW_bool ?_ ?_ <;> intro _ <;> try (exfalso; omega)) | (refine nbC_t (fun _ => ?_) ?_) | (refine nbC_f ?_ (fun _ => ?_)))
      | refine And.intro (by first | omega | (simp only [Int.toNat_natCast] at *; omega) | (simp only [Nat.reduceAdd, Int.cast_ofNat_Int, true_and, and_true]; omega) | kernel_rfl) ?_
      | refine RegW.run ?_
      | fail
    all_goals first
      | (exfalso; omega)
      | exact Dle.refl _ _
      | trace_state
  · rw [if_neg h0] at hq
    have e1 : i - 1 = ((i : Int) - 1).toNat := by omega
    have e2 : i + 1 = ((i : Int) + 1).toNat := by omega
    rw [e1, e2] at hq
    by_cases hk : k = 1
    · rw [if_pos hk] at hq
      have ha := among_sp E hML (s.getD ((i : Int) - 1).toNat zt) mA (by decide)
      have hb := among_sp E hML (s.getD ((i : Int) + 1).toNat zt) mB (by decide)
      generalize amT (s.getD ((i : Int) - 1).toNat zt) mA = a at hq ha
      generalize amT (s.getD ((i : Int) + 1).toNat zt) mB = b at hq hb
      refine Sp.body Try.func51 (by kernel_rfl) rfl (by kernel_rfl) (by kernel_rfl) (by kernel_rfl) ?_
      repeat' first
        | (refine facW_intro ?_; intro _)
        | refine Or.inl ?_
        | ((conv => whnf); first | (refine condW_dec ?_ ?_ <;> intro _ <;> try (exfalso; omega)) | refine condW_not ?_ | (refine condW_bool ?_ ?_ <;> intro _ <;> try (exfalso; omega)) | (refine nbC_t (fun _ => ?_) ?_) | (refine nbC_f ?_ (fun _ => ?_)))
        | refine And.intro (by first | omega | (simp only [Int.toNat_natCast] at *; omega) | (simp only [Nat.reduceAdd, Int.cast_ofNat_Int, true_and, and_true]; omega) | kernel_rfl) ?_
        | refine RegW.run ?_
        | refine ⟨_, ha, ?_⟩
        | refine ⟨_, hb, ?_⟩
        | fail
      all_goals first
        | (exfalso; omega)
        | exact Dle.bo (by subst hq; simp_all; done)
        | trace_state
    · rw [if_neg hk] at hq
      refine Sp.body Try.func51 (by kernel_rfl) rfl (by kernel_rfl) (by kernel_rfl) (by kernel_rfl) ?_
      repeat' first
        | (refine facW_intro ?_; intro _)
        | refine Or.inl ?_
        | ((conv => whnf); first | (refine condW_dec ?_ ?_ <;> intro _ <;> try (exfalso; omega)) | refine condW_not ?_ | (refine condW_bool ?_ ?_ <;> intro _ <;> try (exfalso; omega)) | (refine nbC_t (fun _ => ?_) ?_) | (refine nbC_f ?_ (fun _ => ?_)))
        | refine And.intro (by first | omega | (simp only [Int.toNat_natCast] at *; omega) | (simp only [Nat.reduceAdd, Int.cast_ofNat_Int, true_and, and_true]; omega) | kernel_rfl) ?_
        | refine RegW.run ?_
        | fail
      all_goals first
        | (exfalso; omega)
        | exact Dle.bo (by subst hq; first | (simp_all; done) | (simp_all; omega))
        | trace_state
end
end sh
end Go.Proofs.Ytdmbodlkkdeaoaa
