/-
  Tokens made smaller: Smaller on both sides; Alike over tokens; the law.
-/
import Derived.Test.YtdmbodlkkdeaoaaSm3
import Derived.Test.YtdmbodlkkdeaoaaSh4
import Derived.Test.YtdmbodlkkdeaoaaSh7
namespace Go.Proofs.Ytdmbodlkkdeaoaa
open Go.RowKit
set_option linter.unusedVariables false
set_option linter.unusedSimpArgs false
namespace sh
open bl tk
/-- What Smaller answers. -/
def smallE (k : Int) (l : List Tok) : List Tok × Int := if ¬ (k = 1 ∨ k = 2) then ([], 10) else if toksF l ≠ 0 then ([], toksF l) else (smallT k l, 0)
theorem tokS_two (l : List Tok) : (tokS l).2 = toksF l := by
  unfold tokS
  by_cases h : toksF l = 0
  · rw [if_neg (fun g => g h), h]
  · rw [if_pos h]
section
variable (E : Env)
set_option maxRecDepth 100000
theorem cSmaller_sp (hML : ∀ w, E.G w → ML w) (k : Int) (l : List Tok) (hl : l.length ≤ 2000000) (hs : (catS (txts l)).size ≤ 1000000000000) : Sp (cx Try.prog mixed tyT_ok E) 8 [i64 k, encToks l] (.tup [encToks (smallE k l).1, i64 (smallE k l).2]) := by
  have h1 := tokensFault_sp E l (by omega) hs
  have h2 := sm.smaller_sp E hML k l hl
  obtain ⟨q, hq⟩ : ∃ q, q = smallE k l := ⟨_, rfl⟩
  rw [← hq]
  unfold smallE at hq
  by_cases hk : k = 1 ∨ k = 2
  · rw [if_neg (fun g => g hk)] at hq
    by_cases h0 : toksF l = 0
    · rw [if_neg (fun g => g h0)] at hq
      rw [h0] at h1
      subst hq
      generalize smallT k l = s at h2
      refine Sp.body Try.func8 (by kernel_rfl) rfl (by kernel_rfl) (by kernel_rfl) (by kernel_rfl) ?_
      repeat' first
        | (refine facW_intro ?_; intro _)
        | refine Or.inl ?_
        | ((conv => whnf); first | (refine condW_dec ?_ ?_ <;> intro _ <;> try (exfalso; omega)) | refine condW_not ?_ | (refine condW_bool ?_ ?_ <;> intro _ <;> try (exfalso; omega)) | (refine nbC_t (fun _ => ?_) ?_) | (refine nbC_f ?_ (fun _ => ?_)))
        | refine And.intro (by first | omega | (simp only [Int.toNat_natCast] at *; omega) | (simp only [Nat.reduceAdd, Int.cast_ofNat_Int, true_and, and_true]; omega) | kernel_rfl) ?_
        | refine RegW.run ?_
        | refine ⟨_, h1, ?_⟩
        | refine ⟨_, h2, ?_⟩
        | fail
      all_goals first
        | (exfalso; omega)
        | exact Dle.refl _ _
        | trace_state
    · rw [if_pos h0] at hq
      subst hq
      generalize toksF l = c at h0 h1
      refine Sp.body Try.func8 (by kernel_rfl) rfl (by kernel_rfl) (by kernel_rfl) (by kernel_rfl) ?_
      repeat' first
        | (refine facW_intro ?_; intro _)
        | refine Or.inl ?_
        | ((conv => whnf); first | (refine condW_dec ?_ ?_ <;> intro _ <;> try (exfalso; omega)) | refine condW_not ?_ | (refine condW_bool ?_ ?_ <;> intro _ <;> try (exfalso; omega)) | (refine nbC_t (fun _ => ?_) ?_) | (refine nbC_f ?_ (fun _ => ?_)))
        | refine And.intro (by first | omega | (simp only [Int.toNat_natCast] at *; omega) | (simp only [Nat.reduceAdd, Int.cast_ofNat_Int, true_and, and_true]; omega) | kernel_rfl) ?_
        | refine RegW.run ?_
        | refine ⟨_, h1, ?_⟩
        | refine ⟨_, h2, ?_⟩
        | fail
      all_goals first
        | (exfalso; omega)
        | exact Dle.tup (X := (cx Try.prog mixed tyT_ok E)) ⟨Dle.nil (X := (cx Try.prog mixed tyT_ok E)), Dle.refl _ _, trivial⟩
        | trace_state
  · rw [if_pos hk] at hq
    subst hq
    refine Sp.body Try.func8 (by kernel_rfl) rfl (by kernel_rfl) (by kernel_rfl) (by kernel_rfl) ?_
    repeat' first
      | (refine facW_intro ?_; intro _)
      | refine Or.inl ?_
      | ((conv => whnf); first | (refine condW_dec ?_ ?_ <;> intro _ <;> try (exfalso; omega)) | refine condW_not ?_ | (refine condW_bool ?_ ?_ <;> intro _ <;> try (exfalso; omega)) | (refine nbC_t (fun _ => ?_) ?_) | (refine nbC_f ?_ (fun _ => ?_)))
      | refine And.intro (by first | omega | (simp only [Int.toNat_natCast] at *; omega) | (simp only [Nat.reduceAdd, Int.cast_ofNat_Int, true_and, and_true]; omega) | kernel_rfl) ?_
      | refine RegW.run ?_
      | refine ⟨_, h1, ?_⟩
      | refine ⟨_, h2, ?_⟩
      | fail
    all_goals first
      | (exfalso; omega)
      | exact Dle.tup (X := (cx Try.prog mixed tyT_ok E)) ⟨Dle.nil (X := (cx Try.prog mixed tyT_ok E)), Dle.refl _ _, trivial⟩
      | trace_state
theorem smallerOf_sp (hML : ∀ w, E.G w → ML w) (k : Int) (l : List Tok) (hl : l.length ≤ 2000000) (hs : (catS (txts l)).size ≤ 1000000000000) : Sp (cx Try.prog mixed tyT_ok E) 9 [i64 k, encToks l] (.tup [encToks (smallE k l).1, i64 (smallE k l).2]) := by
  have h1 := tokenStringOf_sp E l (by omega) hs
  rw [tokS_two] at h1
  generalize (tokS l).1 = ts at h1
  obtain ⟨q, hq⟩ : ∃ q, q = smallE k l := ⟨_, rfl⟩
  rw [← hq]
  unfold smallE at hq
  by_cases hk : k = 1 ∨ k = 2
  · have h2 := refSmaller_sp E hML k hk l (by omega)
    rw [if_neg (fun g => g hk)] at hq
    by_cases h0 : toksF l = 0
    · rw [if_neg (fun g => g h0)] at hq
      rw [h0] at h1
      subst hq
      generalize smallT k l = s at h2
      refine Sp.body Try.func9 (by kernel_rfl) rfl (by kernel_rfl) (by kernel_rfl) (by kernel_rfl) ?_
      repeat' first
        | (refine facW_intro ?_; intro _)
        | refine Or.inl ?_
        | ((conv => whnf); first | (refine condW_dec ?_ ?_ <;> intro _ <;> try (exfalso; omega)) | refine condW_not ?_ | (refine condW_bool ?_ ?_ <;> intro _ <;> try (exfalso; omega)) | (refine nbC_t (fun _ => ?_) ?_) | (refine nbC_f ?_ (fun _ => ?_)))
        | refine And.intro (by first | omega | (simp only [Int.toNat_natCast] at *; omega) | (simp only [Nat.reduceAdd, Int.cast_ofNat_Int, true_and, and_true]; omega) | kernel_rfl) ?_
        | refine RegW.run ?_
        | refine ⟨_, h1, ?_⟩
        | refine ⟨_, h2, ?_⟩
        | fail
      all_goals first
        | (exfalso; omega)
        | exact Dle.refl _ _
        | trace_state
    · rw [if_pos h0] at hq
      subst hq
      generalize toksF l = c at h0 h1
      refine Sp.body Try.func9 (by kernel_rfl) rfl (by kernel_rfl) (by kernel_rfl) (by kernel_rfl) ?_
      repeat' first
        | (refine facW_intro ?_; intro _)
        | refine Or.inl ?_
        | ((conv => whnf); first | (refine condW_dec ?_ ?_ <;> intro _ <;> try (exfalso; omega)) | refine condW_not ?_ | (refine condW_bool ?_ ?_ <;> intro _ <;> try (exfalso; omega)) | (refine nbC_t (fun _ => ?_) ?_) | (refine nbC_f ?_ (fun _ => ?_)))
        | refine And.intro (by first | omega | (simp only [Int.toNat_natCast] at *; omega) | (simp only [Nat.reduceAdd, Int.cast_ofNat_Int, true_and, and_true]; omega) | kernel_rfl) ?_
        | refine RegW.run ?_
        | refine ⟨_, h1, ?_⟩
        | refine ⟨_, h2, ?_⟩
        | fail
      all_goals first
        | (exfalso; omega)
        | exact Dle.tup (X := (cx Try.prog mixed tyT_ok E)) ⟨Dle.nil (X := (cx Try.prog mixed tyT_ok E)), Dle.refl _ _, trivial⟩
        | trace_state
  · rw [if_pos hk] at hq
    subst hq
    refine Sp.body Try.func9 (by kernel_rfl) rfl (by kernel_rfl) (by kernel_rfl) (by kernel_rfl) ?_
    repeat' first
      | (refine facW_intro ?_; intro _)
      | refine Or.inl ?_
      | ((conv => whnf); first | (refine condW_dec ?_ ?_ <;> intro _ <;> try (exfalso; omega)) | refine condW_not ?_ | (refine condW_bool ?_ ?_ <;> intro _ <;> try (exfalso; omega)) | (refine nbC_t (fun _ => ?_) ?_) | (refine nbC_f ?_ (fun _ => ?_)))
      | refine And.intro (by first | omega | (simp only [Int.toNat_natCast] at *; omega) | (simp only [Nat.reduceAdd, Int.cast_ofNat_Int, true_and, and_true]; omega) | kernel_rfl) ?_
      | refine RegW.run ?_
      | refine ⟨_, h1, ?_⟩
      | fail
    all_goals first
      | (exfalso; omega)
      | exact Dle.tup (X := (cx Try.prog mixed tyT_ok E)) ⟨Dle.nil (X := (cx Try.prog mixed tyT_ok E)), Dle.refl _ _, trivial⟩
      | trace_state
theorem eqTok_sp (l : List Tok) : Sp (cx Try.prog mixed tyT_ok E) 33 [encToks l, encToks l] (dB true) := by
  refine Sp.body Try.func33 (by kernel_rfl) rfl (by kernel_rfl) (by kernel_rfl) (by kernel_rfl) ?_
  repeat' first
    | (refine facW_intro ?_; intro _)
    | refine Or.inl ?_
    | ((conv => whnf); first | (refine condW_dec ?_ ?_ <;> intro _ <;> try (exfalso; omega)) | refine condW_not ?_ | (refine condW_bool ?_ ?_ <;> intro _ <;> try (exfalso; omega)) | (refine nbC_t (fun _ => ?_) ?_) | (refine nbC_f ?_ (fun _ => ?_)))
    | refine And.intro (by first | omega | (simp only [Int.toNat_natCast] at *; omega) | (simp only [Nat.reduceAdd, Int.cast_ofNat_Int, true_and, and_true]; omega) | kernel_rfl) ?_
    | refine RegW.run ?_
    | fail
  all_goals try (exfalso; rename_i h; exact h rfl)
  refine ⟨Nat, fun k => [(13, i64 k)], fun k => [], [], fun k => [], fun k => k ≤ l.length, fun k => l.length - k, ⟨0, by omega, ⟨[], ⟨by kernel_rfl, by kernel_rfl, by kernel_rfl, by kernel_rfl, by kernel_rfl, by kernel_rfl, by kernel_rfl⟩, (by repeat' first | exact trivial | exact rfl | kernel_rfl | exact Dle.of_eq rfl | exact MLe.of_eq rfl | exact Dle.i (by omega) | exact Dle.i (by simp only [Int.toNat_natCast] at *; omega) | exact Dle.nil | exact Dle.rc Dle.nil | exact Option.some_ne_none _ | exact Or.inl rfl | exact Or.inr trivial | omega | (simp only [Int.toNat_natCast] at *; omega) | (intro _ _ _ _; exact Dle.of_eq rfl) | refine And.intro ?_ ?_)⟩⟩, fun k hk => ?_⟩
  have hk : k ≤ l.length := hk
  repeat' first
    | (refine facW_intro ?_; intro _)
    | refine Or.inl ?_
    | ((conv => whnf); first | (refine condW_dec ?_ ?_ <;> intro _ <;> try (exfalso; omega)) | refine condW_not ?_ | (refine condW_bool ?_ ?_ <;> intro _ <;> try (exfalso; omega)) | (refine nbC_t (fun _ => ?_) ?_) | (refine nbC_f ?_ (fun _ => ?_)))
    | refine And.intro (by first | omega | (simp only [Int.toNat_natCast] at *; omega) | (simp only [Nat.reduceAdd, Int.cast_ofNat_Int, true_and, and_true]; omega) | kernel_rfl) ?_
    | refine RegW.run ?_
    | fail
  all_goals first
    | (exfalso; rename_i h; exact h rfl)
    | (exfalso; rename_i h; simp [valEq] at h; done)
    | exact ⟨k + 1, by omega, ⟨[], ⟨by kernel_rfl, by kernel_rfl, by kernel_rfl, by kernel_rfl, by kernel_rfl, by kernel_rfl, by kernel_rfl⟩, (by repeat' first | exact trivial | exact rfl | kernel_rfl | exact Dle.of_eq rfl | exact MLe.of_eq rfl | exact Dle.i (by omega) | exact Dle.i (by simp only [Int.toNat_natCast] at *; omega) | exact Dle.nil | exact Dle.rc Dle.nil | exact Option.some_ne_none _ | exact Or.inl rfl | exact Or.inr trivial | omega | (simp only [Int.toNat_natCast] at *; omega) | (intro _ _ _ _; exact Dle.of_eq rfl) | refine And.intro ?_ ?_)⟩, by first | omega | (dsimp only; omega)⟩
    | exact Dle.refl _ _
    | trace_state
theorem alikeTok_sp (l : List Tok) : Sp (cx Try.prog mixed tyT_ok E) 10 [.ifc 22 (encToks l), .ifc 22 (encToks l)] (dB true) := by
  have h1 := eqTok_sp E l
  refine Sp.body Try.func10 (by kernel_rfl) rfl (by kernel_rfl) (by kernel_rfl) (by kernel_rfl) ?_
  repeat' first
    | (refine facW_intro ?_; intro _)
    | refine Or.inl ?_
    | ((conv => whnf); first | (refine condW_dec ?_ ?_ <;> intro _ <;> try (exfalso; omega)) | refine condW_not ?_ | (refine condW_bool ?_ ?_ <;> intro _ <;> try (exfalso; omega)) | (refine nbC_t (fun _ => ?_) ?_) | (refine nbC_f ?_ (fun _ => ?_)))
    | refine And.intro (by first | omega | (simp only [Int.toNat_natCast] at *; omega) | (simp only [Nat.reduceAdd, Int.cast_ofNat_Int, true_and, and_true]; omega) | kernel_rfl) ?_
    | refine RegW.run ?_
    | refine ⟨_, h1, ?_⟩
    | fail
  all_goals first
    | (exfalso; rename_i h; exact h rfl)
    | exact Dle.refl _ _
    | trace_state
theorem assetShrinks_sp (hML : ∀ w, E.G w → ML w) (k : Int) (l : List Tok) (hl : l.length ≤ 2000000) (hs : (catS (txts l)).size ≤ 1000000000000) : Sp (cx Try.prog mixed tyT_ok E) 3 [i64 k, encToks l] (dB true) := by
  have h1 := tokenString_sp E l (by omega) hs
  have h2 := tokenStringOf_sp E l (by omega) hs
  have h3 := cSmaller_sp E hML k l hl hs
  have h4 := smallerOf_sp E hML k l hl hs
  generalize tokS l = a at h1 h2
  generalize smallE k l = b at h3 h4
  have h5 := alikeTok_sp E b.1
  refine Sp.body Try.func3 (by kernel_rfl) rfl (by kernel_rfl) (by kernel_rfl) (by kernel_rfl) ?_
  repeat' first
    | (refine facW_intro ?_; intro _)
    | refine Or.inl ?_
    | ((conv => whnf); first | (refine condW_dec ?_ ?_ <;> intro _ <;> try (exfalso; omega)) | refine condW_not ?_ | (refine condW_bool ?_ ?_ <;> intro _ <;> try (exfalso; omega)) | (refine nbC_t (fun _ => ?_) ?_) | (refine nbC_f ?_ (fun _ => ?_)))
    | refine And.intro (by first | omega | (simp only [Int.toNat_natCast] at *; omega) | (simp only [Nat.reduceAdd, Int.cast_ofNat_Int, true_and, and_true]; omega) | kernel_rfl) ?_
    | refine RegW.run ?_
    | refine ⟨_, h1, ?_⟩
    | refine ⟨_, h2, ?_⟩
    | refine ⟨_, h3, ?_⟩
    | refine ⟨_, h4, ?_⟩
    | refine ⟨_, h5, ?_⟩
    | fail
  all_goals first
    | (exfalso; rename_i h; exact h rfl)
    | exact Dle.bo (by simp)
    | trace_state
end
end sh
end Go.Proofs.Ytdmbodlkkdeaoaa
