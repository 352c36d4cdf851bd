/-
  Faults of a value by a schema: the law's call.
-/
import Derived.Test.YtilfmjldcigagaaGreatDoorFt8
import Derived.Test.YtilfmjldcigagaaGreatDoorFt9
namespace Go.Proofs.YtilfmjldcigagaaGreatDoor
open Go.RowKit
set_option linter.unusedVariables false
set_option pp.maxSteps 300
set_option linter.unusedSimpArgs false
namespace ft
section
variable (E : Env)
set_option maxRecDepth 100000
theorem schemaFaults_sp (hML : ∀ w, E.G w → ML w) (hP : ∀ w, E.G w → P10 w) (l : List Fd) (b : Bool) (v : Vu) (hl : fdOk l) (hlen : l.length ≤ 1000000000) (hw : v.wt ≤ 5000000) : Sp (cx Tryz.prog mixed tyT_ok E) 4 [.agg [encFs l, dB b], encV v] (dB true) := by
  have h1 := faults_sp E hML hP l b v hl hlen hw
  have h2 := faultsOf_sp E hML hP l b v hl hlen hw
  generalize faultsE l b v = q at h1 h2
  have h3 := alikeFlts_sp E q.1
  refine Sp.body Tryz.func4 (by kernel_rfl) rfl (by kernel_rfl) (by kernel_rfl) (by kernel_rfl) ?_
  repeat' first
    | (refine codeW_cond rfl ?_; first | (refine condW_dec ?_ ?_ <;> intro _ <;> try (exfalso; omega)) | refine condW_not ?_ | (refine condW_bool ?_ ?_ <;> intro _ <;> try (exfalso; omega)))
    | (refine facW_intro ?_; intro _)
    | refine Or.inl ?_
    | ((conv => whnf); first | (refine condW_dec ?_ ?_ <;> intro _ <;> try (exfalso; omega)) | refine condW_not ?_ | (refine condW_bool ?_ ?_ <;> intro _ <;> try (exfalso; omega)) | (refine nbC_t (fun _ => ?_) ?_) | (refine nbC_f ?_ (fun _ => ?_)))
    | refine And.intro (by first | omega | (simp only [Int.toNat_natCast] at *; omega) | (simp only [Nat.reduceAdd, Int.cast_ofNat_Int, true_and, and_true]; omega) | kernel_rfl) ?_
    | refine RegW.run ?_
    | refine ⟨_, h1, ?_⟩
    | refine ⟨_, h2, ?_⟩
    | refine ⟨_, h3, ?_⟩
    | fail
  all_goals first
    | (exfalso; rename_i h; exact h rfl)
    | exact Dle.bo (by simp)
    | trace_state
end
end ft
end Go.Proofs.YtilfmjldcigagaaGreatDoor
