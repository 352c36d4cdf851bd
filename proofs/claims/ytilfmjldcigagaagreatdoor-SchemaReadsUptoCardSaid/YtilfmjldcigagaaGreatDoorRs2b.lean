/-
  A schema's value, the reference: fieldOf.
-/
import Derived.Test.YtilfmjldcigagaaGreatDoorRs2
namespace Go.Proofs.YtilfmjldcigagaaGreatDoor
open Go.RowKit
set_option linter.unusedVariables false
set_option linter.unusedSimpArgs false
namespace rs
section
variable (E : Env)
set_option maxRecDepth 100000
set_option maxHeartbeats 4000000 in
theorem fieldOf_sp (E0 : Env) (hg : ∀ w, E0.G w → ∀ g, Rep view E0.MG w b0 (namesGv g) (.pointer (some ⟨g, 0, none⟩))) (hE : E = nEnv E0 hg) (t : Vu) (hf : faultE t = 0) (hw : t.wt ≤ 100000000) : Sp (cx Tryz.prog mixed tyT_ok E) 22 [encV t] (encF (fieldR t)) := by
  have h1 := has_sp E t (⟨#[114, 111, 117, 116, 101]⟩ : ByteArray) hf
  have h2 := has_sp E t (⟨#[107, 105, 110, 100]⟩ : ByteArray) hf
  have h3 := has_sp E t (⟨#[110, 101, 101, 100]⟩ : ByteArray) hf
  have h4 := has_sp E t (⟨#[109, 105, 110]⟩ : ByteArray) hf
  have h5 := has_sp E t (⟨#[109, 97, 120]⟩ : ByteArray) hf
  have h6 := has_sp E t (⟨#[111, 110, 101, 111, 102]⟩ : ByteArray) hf
  have h7 := has_sp E t (⟨#[100, 101, 102, 97, 117, 108, 116]⟩ : ByteArray) hf
  have h8 := textsOf_sp E (itemK t (⟨#[111, 110, 101, 111, 102]⟩ : ByteArray)) (by have := item_wt hf (⟨#[111, 110, 101, 111, 102]⟩ : ByteArray); have := wtL_le_wt (itemK t (⟨#[111, 110, 101, 111, 102]⟩ : ByteArray)); have := len_le_wtL (itemK t (⟨#[111, 110, 101, 111, 102]⟩ : ByteArray)).items; omega)
  have h9 := index_sp E names (itemK t (⟨#[107, 105, 110, 100]⟩ : ByteArray)).text
  have hmin : hasK t (⟨#[109, 105, 110]⟩ : ByteArray) = false → (itemK t (⟨#[109, 105, 110]⟩ : ByteArray)).i = 0 := fun h => by unfold itemK getK; rw [h]; rfl
  unfold fieldR nameI
  generalize idxS names (itemK t (⟨#[107, 105, 110, 100]⟩ : ByteArray)).text 0 = kk at h9
  generalize itemK t (⟨#[114, 111, 117, 116, 101]⟩ : ByteArray) = v1 at h1
  generalize itemK t (⟨#[107, 105, 110, 100]⟩ : ByteArray) = v2 at h2 h9
  generalize itemK t (⟨#[110, 101, 101, 100]⟩ : ByteArray) = v3 at h3
  generalize itemK t (⟨#[109, 105, 110]⟩ : ByteArray) = v4 at h4 hmin
  generalize itemK t (⟨#[109, 97, 120]⟩ : ByteArray) = v5 at h5
  generalize itemK t (⟨#[111, 110, 101, 111, 102]⟩ : ByteArray) = v6 at h6 h8
  generalize itemK t (⟨#[100, 101, 102, 97, 117, 108, 116]⟩ : ByteArray) = v7 at h7
  generalize hasK t (⟨#[109, 105, 110]⟩ : ByteArray) = bm at h4 hmin
  subst hE
  cases bm
  · have hmin := hmin rfl
    refine Sp.body Tryz.func22 (by kernel_rfl) rfl (by kernel_rfl) (by kernel_rfl) (by kernel_rfl) ?_
    repeat' first
      | (refine facW_intro ?_; intro _)
      | refine Or.inl ?_
      | ((conv => whnf); first | (refine condW_dec ?_ ?_ <;> intro _ <;> try (exfalso; omega)) | refine condW_not ?_ | (refine condW_bool ?_ ?_ <;> intro _ <;> try (exfalso; omega)) | (refine nbC_t (fun _ => ?_) ?_) | (refine nbC_f ?_ (fun _ => ?_)))
      | refine And.intro (by first | omega | (simp only [Int.toNat_natCast] at *; omega) | (simp only [Nat.reduceAdd, Int.cast_ofNat_Int, true_and, and_true]; omega) | kernel_rfl) ?_
      | refine RegW.run ?_
      | refine ⟨_, h1, ?_⟩
      | refine ⟨_, h2, ?_⟩
      | refine ⟨_, h3, ?_⟩
      | refine ⟨_, h4, ?_⟩
      | refine ⟨_, h5, ?_⟩
      | refine ⟨_, h6, ?_⟩
      | refine ⟨_, h7, ?_⟩
      | refine ⟨_, h8, ?_⟩
      | refine ⟨_, h9, ?_⟩
      | fail
    all_goals first
      | exact Dle.agg ⟨Dle.refl _ _, Dle.refl _ _, Dle.refl _ _, Dle.refl _ _, Dle.i hmin.symm, Dle.refl _ _, Dle.refl _ _, Dle.refl _ _, Dle.refl _ _, Dle.refl _ _, Dle.refl _ _, Dle.refl _ _, Dle.refl _ _, trivial⟩
  · refine Sp.body Tryz.func22 (by kernel_rfl) rfl (by kernel_rfl) (by kernel_rfl) (by kernel_rfl) ?_
    repeat' first
      | (refine facW_intro ?_; intro _)
      | refine Or.inl ?_
      | ((conv => whnf); first | (refine condW_dec ?_ ?_ <;> intro _ <;> try (exfalso; omega)) | refine condW_not ?_ | (refine condW_bool ?_ ?_ <;> intro _ <;> try (exfalso; omega)) | (refine nbC_t (fun _ => ?_) ?_) | (refine nbC_f ?_ (fun _ => ?_)))
      | refine And.intro (by first | omega | (simp only [Int.toNat_natCast] at *; omega) | (simp only [Nat.reduceAdd, Int.cast_ofNat_Int, true_and, and_true]; omega) | kernel_rfl) ?_
      | refine RegW.run ?_
      | refine ⟨_, h1, ?_⟩
      | refine ⟨_, h2, ?_⟩
      | refine ⟨_, h3, ?_⟩
      | refine ⟨_, h4, ?_⟩
      | refine ⟨_, h5, ?_⟩
      | refine ⟨_, h6, ?_⟩
      | refine ⟨_, h7, ?_⟩
      | refine ⟨_, h8, ?_⟩
      | refine ⟨_, h9, ?_⟩
      | fail
    all_goals first
      | exact Dle.refl _ _
      | trace_state
end
end rs
end Go.Proofs.YtilfmjldcigagaaGreatDoor
