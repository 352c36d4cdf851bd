/-
  Tokens made smaller: tokensFault, TokenString, the reference's TokenStringOf.
-/
import Derived.Test.YtdmbodlkkdeaoaaSh1
namespace Go.Proofs.Ytdmbodlkkdeaoaa
open Go.RowKit
set_option linter.unusedVariables false
set_option linter.unusedSimpArgs false
namespace sh
open bl tk
theorem catS_snoc {l : List Tok} {k : Nat} (h : k < l.length) : catS (txts (l.take (k + 1))) = catS (txts (l.take k)) ++ (l.getD k zt).2 := by
  have e : txts (l.take (k + 1)) = txts (l.take k) ++ [(l.getD k zt).2] := by
    unfold txts
    rw [List.take_add_one, List.map_append]
    simp [List.getD, h]
  rw [e]
  unfold catS catL
  rw [List.flatMap_append]
  apply ByteArray.ext
  simp
theorem catS_size (l : List Tok) (k : Nat) : (catS (txts (l.take k))).size = sizesT l k := by
  have h2 : (catS (txts (l.take k))).size = (catL (txts (l.take k))).length := rfl
  rw [h2, catL_len]
  rfl
theorem sizesT_max (l : List Tok) (k : Nat) : sizesT l k ≤ (catS (txts l)).size := by
  have h := sizesT_le l k
  have h2 : (catS (txts l)).size = (catL (txts l)).length := rfl
  rw [h2, catL_len]
  exact h
theorem badT_iff (t : Tok) : badT t = true ↔ t.1 < 1 ∨ 4 < t.1 ∨ t.2 = ⟨#[]⟩ ∨ (t.1 = 4 ∧ t.2 ≠ ⟨#[32]⟩) := by
  unfold badT
  simp only [Bool.or_eq_true, Bool.and_eq_true, decide_eq_true_eq]
/-- What TokenString answers. -/
def tokS (l : List Tok) : ByteArray × Int := if toksF l ≠ 0 then (⟨#[]⟩, toksF l) else (catS (txts l), 0)
section
variable (E : Env)
set_option maxRecDepth 100000
theorem tokensFault_sp (l : List Tok) (hl : l.length ≤ 1000000000) (hs : (catS (txts l)).size ≤ 1000000000000) : Sp (cx Try.prog mixed tyT_ok E) 15 [encToks l] (i64 (toksF l)) := by
  obtain ⟨q, hq⟩ : ∃ q, q = toksF l := ⟨_, rfl⟩
  rw [← hq]
  unfold toksF at hq
  have hmx := sizesT_max l
  have hal := sizesT_all l (Nat.le_refl _)
  generalize (catS (txts l)).size = S at hs hmx hal hq
  by_cases h0 : 20000 < l.length
  · rw [if_pos h0] at hq
    subst hq
    refine Sp.body Try.func15 (by kernel_rfl) rfl (by kernel_rfl) (by kernel_rfl) (by kernel_rfl) ?_
    repeat' first
      | (refine facW_intro ?_; intro _)
      | refine Or.inl ?_
      | ((conv => whnf); first | (refine condW_dec ?_ ?_ <;> intro _ <;> try (exfalso; omega)) | refine condW_not ?_ | (refine condW_bool ?_ ?_ <;> intro _ <;> try (exfalso; omega)) | (refine nbC_t (fun _ => ?_) ?_) | (refine nbC_f ?_ (fun _ => ?_)))
      | refine And.intro (by first | omega | (simp only [Int.toNat_natCast] at *; omega) | (simp only [Nat.reduceAdd, Int.cast_ofNat_Int, true_and, and_true]; omega) | kernel_rfl) ?_
      | refine RegW.run ?_
      | fail
    all_goals first
      | (exfalso; omega)
      | exact Dle.refl _ _
      | trace_state
  · rw [if_neg h0] at hq
    refine Sp.body Try.func15 (by kernel_rfl) rfl (by kernel_rfl) (by kernel_rfl) (by kernel_rfl) ?_
    repeat' first
      | (refine facW_intro ?_; intro _)
      | refine Or.inl ?_
      | ((conv => whnf); first | (refine condW_dec ?_ ?_ <;> intro _ <;> try (exfalso; omega)) | refine condW_not ?_ | (refine condW_bool ?_ ?_ <;> intro _ <;> try (exfalso; omega)) | (refine nbC_t (fun _ => ?_) ?_) | (refine nbC_f ?_ (fun _ => ?_)))
      | refine And.intro (by first | omega | (simp only [Int.toNat_natCast] at *; omega) | (simp only [Nat.reduceAdd, Int.cast_ofNat_Int, true_and, and_true]; omega) | kernel_rfl) ?_
      | refine RegW.run ?_
      | fail
    refine ⟨Nat, fun k => [(11, i64 k), (3, i64 (sizesT l k))], fun k => [], [], fun k => [], fun k => k ≤ l.length ∧ q = (if formE l k = true then 1 else if 200000 < S then 4 else 0), fun k => l.length - k, ⟨0, ⟨by omega, hq⟩, ⟨[], ⟨by kernel_rfl, by kernel_rfl, by kernel_rfl, by kernel_rfl, by kernel_rfl, by kernel_rfl, by kernel_rfl⟩, (by repeat' first | exact trivial | exact rfl | kernel_rfl | exact Dle.of_eq rfl | exact MLe.of_eq rfl | exact Dle.i (by omega) | exact Dle.i (by simp only [Int.toNat_natCast] at *; omega) | exact Dle.nil | exact Dle.rc Dle.nil | exact Option.some_ne_none _ | exact Or.inl rfl | exact Or.inr trivial | omega | (simp only [Int.toNat_natCast] at *; omega) | (intro _ _ _ _; exact Dle.of_eq rfl) | refine And.intro ?_ ?_)⟩⟩, fun k hk => ?_⟩
    obtain ⟨hk, hK⟩ := hk
    by_cases hlt : k < l.length
    · have h1 := sizesT_succ hlt
      have h1 : sizesT l (k + 1) = sizesT l k + (l.getD ((k : Int)).toNat (0, ⟨#[]⟩)).2.size := h1
      have h2 := hmx (k + 1)
      rw [formE_at hlt] at hK
      by_cases hb : badT (l.getD ((k : Int)).toNat zt) = true
      · have hK : q = 1 := by rw [hK, show badT (l.getD k zt) = true from hb]; rfl
        subst hK
        have hb := (badT_iff _).1 hb
        repeat' first
          | (refine facW_intro ?_; intro _)
          | refine Or.inl ?_
          | ((conv => whnf); first | (refine condW_dec ?_ ?_ <;> intro _ <;> try (exfalso; omega)) | refine condW_not ?_ | (refine condW_bool ?_ ?_ <;> intro _ <;> try (exfalso; omega)) | (refine nbC_t (fun _ => ?_) ?_) | (refine nbC_f ?_ (fun _ => ?_)))
          | refine And.intro (by first | omega | (simp only [Int.toNat_natCast] at *; omega) | (simp only [Nat.reduceAdd, Int.cast_ofNat_Int, true_and, and_true]; omega) | kernel_rfl) ?_
          | refine RegW.run ?_
          | fail
        all_goals first
          | exact Dle.refl _ _
          | (exfalso; rcases hb with h | h | h | ⟨h, g⟩ <;> first | omega | exact absurd h (by assumption) | exact g (by assumption))
          | trace_state
      · have hK : q = (if formE l (k + 1) = true then 1 else if 200000 < S then 4 else 0) := by
          have hb2 : badT (l.getD k zt) = false := by simpa using hb
          rw [hb2, Bool.false_or] at hK
          exact hK
        have hb := fun h => hb ((badT_iff _).2 h)
        have n1 : ¬ (l.getD ((k : Int)).toNat zt).1 < 1 := fun h => hb (.inl h)
        have n2 : ¬ 4 < (l.getD ((k : Int)).toNat zt).1 := fun h => hb (.inr (.inl h))
        have n3 : ¬ (l.getD ((k : Int)).toNat zt).2 = ⟨#[]⟩ := fun h => hb (.inr (.inr (.inl h)))
        have n4 : (l.getD ((k : Int)).toNat zt).1 = 4 → (l.getD ((k : Int)).toNat zt).2 = ⟨#[32]⟩ := fun h => Classical.byContradiction fun g => hb (.inr (.inr (.inr ⟨h, g⟩)))
        repeat' first
          | (refine facW_intro ?_; intro _)
          | refine Or.inl ?_
          | ((conv => whnf); first | (refine condW_dec ?_ ?_ <;> intro _ <;> try (exfalso; omega)) | refine condW_not ?_ | (refine condW_bool ?_ ?_ <;> intro _ <;> try (exfalso; omega)) | (refine nbC_t (fun _ => ?_) ?_) | (refine nbC_f ?_ (fun _ => ?_)))
          | refine And.intro (by first | omega | (simp only [Int.toNat_natCast] at *; omega) | (simp only [Nat.reduceAdd, Int.cast_ofNat_Int, true_and, and_true]; omega) | kernel_rfl) ?_
          | refine RegW.run ?_
          | fail
        all_goals first
          | (exfalso; exact n1 (by assumption))
          | (exfalso; exact n2 (by assumption))
          | (exfalso; exact n3 (by assumption))
          | (exfalso; exact absurd (n4 (by assumption)) (by assumption))
          | exact ⟨k + 1, ⟨by omega, hK⟩, ⟨[], ⟨by kernel_rfl, by kernel_rfl, by kernel_rfl, by kernel_rfl, by kernel_rfl, by kernel_rfl, by kernel_rfl⟩, (by repeat' first | (exact Dle.i (by omega)) | exact trivial | exact rfl | kernel_rfl | exact Dle.of_eq rfl | exact MLe.of_eq rfl | exact Dle.i (by omega) | exact Dle.i (by simp only [Int.toNat_natCast] at *; omega) | exact Dle.nil | exact Dle.rc Dle.nil | exact Option.some_ne_none _ | exact Or.inl rfl | exact Or.inr trivial | omega | (simp only [Int.toNat_natCast] at *; omega) | (intro _ _ _ _; exact Dle.of_eq rfl) | refine And.intro ?_ ?_)⟩, by first | omega | (dsimp only; omega)⟩
          | trace_state
    · have hK : q = if 200000 < S then 4 else 0 := by rw [hK, formE_end hlt]; rfl
      have e : sizesT l k = S := by rw [← hal]; congr 1; omega
      repeat' first
        | (refine facW_intro ?_; intro _)
        | refine Or.inl ?_
        | ((conv => whnf); first | (refine condW_dec ?_ ?_ <;> intro _ <;> try (exfalso; omega)) | refine condW_not ?_ | (refine condW_bool ?_ ?_ <;> intro _ <;> try (exfalso; omega)) | (refine nbC_t (fun _ => ?_) ?_) | (refine nbC_f ?_ (fun _ => ?_)))
        | refine And.intro (by first | omega | (simp only [Int.toNat_natCast] at *; omega) | (simp only [Nat.reduceAdd, Int.cast_ofNat_Int, true_and, and_true]; omega) | kernel_rfl) ?_
        | refine RegW.run ?_
        | fail
      all_goals first
        | exact Dle.i (by rw [hK, if_pos (by omega)])
        | exact Dle.i (by rw [hK, if_neg (by omega)])
        | trace_state
theorem tokenString_sp (l : List Tok) (hl : l.length ≤ 1000000000) (hs : (catS (txts l)).size ≤ 1000000000000) : Sp (cx Try.prog mixed tyT_ok E) 6 [encToks l] (.tup [dS (tokS l).1, i64 (tokS l).2]) := by
  have h1 := tokensFault_sp E l hl hs
  have h2 := joined_sp E l (by omega) (by omega)
  unfold tokS
  by_cases h0 : toksF l = 0
  · rw [if_neg (fun g => g h0)]
    rw [h0] at h1
    refine Sp.body Try.func6 (by kernel_rfl) rfl (by kernel_rfl) (by kernel_rfl) (by kernel_rfl) ?_
    repeat' first
      | (refine facW_intro ?_; intro _)
      | refine Or.inl ?_
      | ((conv => whnf); first | (refine condW_dec ?_ ?_ <;> intro _ <;> try (exfalso; omega)) | refine condW_not ?_ | (refine condW_bool ?_ ?_ <;> intro _ <;> try (exfalso; omega)) | (refine nbC_t (fun _ => ?_) ?_) | (refine nbC_f ?_ (fun _ => ?_)))
      | refine And.intro (by first | omega | (simp only [Int.toNat_natCast] at *; omega) | (simp only [Nat.reduceAdd, Int.cast_ofNat_Int, true_and, and_true]; omega) | kernel_rfl) ?_
      | refine RegW.run ?_
      | refine ⟨_, h1, ?_⟩
      | refine ⟨_, h2, ?_⟩
      | fail
    all_goals first
      | (exfalso; rename_i h; exact h rfl)
      | exact Dle.refl _ _
      | trace_state
  · rw [if_pos h0]
    generalize toksF l = c at h0 h1
    refine Sp.body Try.func6 (by kernel_rfl) rfl (by kernel_rfl) (by kernel_rfl) (by kernel_rfl) ?_
    repeat' first
      | (refine facW_intro ?_; intro _)
      | refine Or.inl ?_
      | ((conv => whnf); first | (refine condW_dec ?_ ?_ <;> intro _ <;> try (exfalso; omega)) | refine condW_not ?_ | (refine condW_bool ?_ ?_ <;> intro _ <;> try (exfalso; omega)) | (refine nbC_t (fun _ => ?_) ?_) | (refine nbC_f ?_ (fun _ => ?_)))
      | refine And.intro (by first | omega | (simp only [Int.toNat_natCast] at *; omega) | (simp only [Nat.reduceAdd, Int.cast_ofNat_Int, true_and, and_true]; omega) | kernel_rfl) ?_
      | refine RegW.run ?_
      | refine ⟨_, h1, ?_⟩
      | refine ⟨_, h2, ?_⟩
      | fail
    all_goals first
      | (exfalso; omega)
      | exact Dle.refl _ _
      | trace_state
theorem tokenStringOf_sp (l : List Tok) (hl : l.length ≤ 1000000000) (hs : (catS (txts l)).size ≤ 1000000000000) : Sp (cx Try.prog mixed tyT_ok E) 7 [encToks l] (.tup [dS (tokS l).1, i64 (tokS l).2]) := by
  obtain ⟨q, hq⟩ : ∃ q, q = tokS l := ⟨_, rfl⟩
  rw [← hq]
  unfold tokS toksF at hq
  have hmx := sizesT_max l
  have hal := sizesT_all l (Nat.le_refl _)
  have hcz := catS_size l
  have hall : catS (txts (l.take l.length)) = catS (txts l) := by rw [List.take_of_length_le (Nat.le_refl _)]
  by_cases h0 : 20000 < l.length
  · rw [if_pos h0] at hq
    subst hq
    refine Sp.body Try.func7 (by kernel_rfl) rfl (by kernel_rfl) (by kernel_rfl) (by kernel_rfl) ?_
    repeat' first
      | (refine facW_intro ?_; intro _)
      | refine Or.inl ?_
      | ((conv => whnf); first | (refine condW_dec ?_ ?_ <;> intro _ <;> try (exfalso; omega)) | refine condW_not ?_ | (refine condW_bool ?_ ?_ <;> intro _ <;> try (exfalso; omega)) | (refine nbC_t (fun _ => ?_) ?_) | (refine nbC_f ?_ (fun _ => ?_)))
      | refine And.intro (by first | omega | (simp only [Int.toNat_natCast] at *; omega) | (simp only [Nat.reduceAdd, Int.cast_ofNat_Int, true_and, and_true]; omega) | kernel_rfl) ?_
      | refine RegW.run ?_
      | fail
    all_goals first
      | (exfalso; omega)
      | exact Dle.refl _ _
      | trace_state
  · rw [if_neg h0] at hq
    refine Sp.body Try.func7 (by kernel_rfl) rfl (by kernel_rfl) (by kernel_rfl) (by kernel_rfl) ?_
    repeat' first
      | (refine facW_intro ?_; intro _)
      | refine Or.inl ?_
      | ((conv => whnf); first | (refine condW_dec ?_ ?_ <;> intro _ <;> try (exfalso; omega)) | refine condW_not ?_ | (refine condW_bool ?_ ?_ <;> intro _ <;> try (exfalso; omega)) | (refine nbC_t (fun _ => ?_) ?_) | (refine nbC_f ?_ (fun _ => ?_)))
      | refine And.intro (by first | omega | (simp only [Int.toNat_natCast] at *; omega) | (simp only [Nat.reduceAdd, Int.cast_ofNat_Int, true_and, and_true]; omega) | kernel_rfl) ?_
      | refine RegW.run ?_
      | fail
    refine ⟨Nat, fun k => [(12, i64 k), (4, dS (catS (txts (l.take k))))], fun k => [], [], fun k => [], fun k => k ≤ l.length ∧ q = (if (if formE l k = true then (1 : Int) else if 200000 < (catS (txts l)).size then 4 else 0) ≠ 0 then (⟨#[]⟩, if formE l k = true then (1 : Int) else if 200000 < (catS (txts l)).size then 4 else 0) else (catS (txts l), 0)), fun k => l.length - k, ⟨0, ⟨by omega, hq⟩, ⟨[], ⟨by kernel_rfl, by kernel_rfl, by kernel_rfl, by kernel_rfl, by kernel_rfl, by kernel_rfl, by kernel_rfl⟩, (by repeat' first | exact trivial | exact rfl | kernel_rfl | exact Dle.of_eq rfl | exact MLe.of_eq rfl | exact Dle.i (by omega) | exact Dle.i (by simp only [Int.toNat_natCast] at *; omega) | exact Dle.nil | exact Dle.rc Dle.nil | exact Option.some_ne_none _ | exact Or.inl rfl | exact Or.inr trivial | omega | (simp only [Int.toNat_natCast] at *; omega) | (intro _ _ _ _; exact Dle.of_eq rfl) | refine And.intro ?_ ?_)⟩⟩, fun k hk => ?_⟩
    obtain ⟨hk, hK⟩ := hk
    by_cases hlt : k < l.length
    · have h1 := sizesT_succ hlt
      have h1 : sizesT l (k + 1) = sizesT l k + (l.getD ((k : Int)).toNat (0, ⟨#[]⟩)).2.size := h1
      have h2 := hmx (k + 1)
      have h3 := hcz k
      have h4 := catS_snoc hlt
      rw [formE_at hlt] at hK
      by_cases hb : badT (l.getD ((k : Int)).toNat zt) = true
      · have hK : q = (⟨#[]⟩, 1) := by rw [hK, show badT (l.getD k zt) = true from hb]; rfl
        subst hK
        have hb := (badT_iff _).1 hb
        repeat' first
          | (refine facW_intro ?_; intro _)
          | refine Or.inl ?_
          | ((conv => whnf); first | (refine condW_dec ?_ ?_ <;> intro _ <;> try (exfalso; omega)) | refine condW_not ?_ | (refine condW_bool ?_ ?_ <;> intro _ <;> try (exfalso; omega)) | (refine nbC_t (fun _ => ?_) ?_) | (refine nbC_f ?_ (fun _ => ?_)))
          | refine And.intro (by first | omega | (simp only [Int.toNat_natCast] at *; omega) | (simp only [Nat.reduceAdd, Int.cast_ofNat_Int, true_and, and_true]; omega) | kernel_rfl) ?_
          | refine RegW.run ?_
          | fail
        all_goals first
          | (exfalso; rcases hb with h | h | h | ⟨h, g⟩ <;> first | omega | exact absurd h (by assumption) | exact g (by assumption))
          | exact Dle.refl _ _
          | trace_state
      · have hK : q = (if (if formE l (k + 1) = true then (1 : Int) else if 200000 < (catS (txts l)).size then 4 else 0) ≠ 0 then (⟨#[]⟩, if formE l (k + 1) = true then (1 : Int) else if 200000 < (catS (txts l)).size then 4 else 0) else (catS (txts l), 0)) := by
          have hb2 : badT (l.getD k zt) = false := by simpa using hb
          rw [hb2, Bool.false_or] at hK
          exact hK
        have hb := fun h => hb ((badT_iff _).2 h)
        have n1 : ¬ (l.getD ((k : Int)).toNat zt).1 < 1 := fun h => hb (.inl h)
        have n2 : ¬ 4 < (l.getD ((k : Int)).toNat zt).1 := fun h => hb (.inr (.inl h))
        have n3 : ¬ (l.getD ((k : Int)).toNat zt).2 = ⟨#[]⟩ := fun h => hb (.inr (.inr (.inl h)))
        have n4 : (l.getD ((k : Int)).toNat zt).1 = 4 → (l.getD ((k : Int)).toNat zt).2 = ⟨#[32]⟩ := fun h => Classical.byContradiction fun g => hb (.inr (.inr (.inr ⟨h, g⟩)))
        repeat' first
          | (refine facW_intro ?_; intro _)
          | refine Or.inl ?_
          | ((conv => whnf); first | (refine condW_dec ?_ ?_ <;> intro _ <;> try (exfalso; omega)) | refine condW_not ?_ | (refine condW_bool ?_ ?_ <;> intro _ <;> try (exfalso; omega)) | (refine nbC_t (fun _ => ?_) ?_) | (refine nbC_f ?_ (fun _ => ?_)))
          | refine And.intro (by first | omega | (simp only [Int.toNat_natCast] at *; omega) | (simp only [Nat.reduceAdd, Int.cast_ofNat_Int, true_and, and_true]; omega) | kernel_rfl) ?_
          | refine RegW.run ?_
          | fail
        all_goals first
          | (exfalso; exact n1 (by assumption))
          | (exfalso; exact n2 (by assumption))
          | (exfalso; exact n3 (by assumption))
          | (exfalso; exact absurd (n4 (by assumption)) (by assumption))
          | exact ⟨k + 1, ⟨by omega, hK⟩, ⟨[], ⟨by kernel_rfl, by kernel_rfl, by kernel_rfl, by kernel_rfl, by kernel_rfl, by kernel_rfl, by kernel_rfl⟩, (by repeat' first | (exact Dle.s h4.symm) | exact trivial | exact rfl | kernel_rfl | exact Dle.of_eq rfl | exact MLe.of_eq rfl | exact Dle.i (by omega) | exact Dle.i (by simp only [Int.toNat_natCast] at *; omega) | exact Dle.nil | exact Dle.rc Dle.nil | exact Option.some_ne_none _ | exact Or.inl rfl | exact Or.inr trivial | omega | (simp only [Int.toNat_natCast] at *; omega) | (intro _ _ _ _; exact Dle.of_eq rfl) | refine And.intro ?_ ?_)⟩, by first | omega | (dsimp only; omega)⟩
          | trace_state
    · obtain rfl : k = l.length := by omega
      rw [formE_end hlt] at hK
      have h3 := hcz l.length
      rw [hall] at h3
      by_cases hS : 200000 < (catS (txts l)).size
      · have hK : q = (⟨#[]⟩, 4) := by rw [hK]; simp [hS]
        subst hK
        have hS2 : 200000 < (catS (txts (l.take l.length))).size := by rw [hall]; exact hS
        repeat' first
          | (refine facW_intro ?_; intro _)
          | refine Or.inl ?_
          | ((conv => whnf); first | (refine condW_dec ?_ ?_ <;> intro _ <;> try (exfalso; omega)) | refine condW_not ?_ | (refine condW_bool ?_ ?_ <;> intro _ <;> try (exfalso; omega)) | (refine nbC_t (fun _ => ?_) ?_) | (refine nbC_f ?_ (fun _ => ?_)))
          | refine And.intro (by first | omega | (simp only [Int.toNat_natCast] at *; omega) | (simp only [Nat.reduceAdd, Int.cast_ofNat_Int, true_and, and_true]; omega) | kernel_rfl) ?_
          | refine RegW.run ?_
          | fail
        all_goals first
          | (exfalso; omega)
          | exact Dle.refl _ _
          | trace_state
      · have hK : q = (catS (txts l), 0) := by rw [hK]; simp [hS]
        subst hK
        have hS2 : ¬ 200000 < (catS (txts (l.take l.length))).size := by rw [hall]; exact hS
        repeat' first
          | (refine facW_intro ?_; intro _)
          | refine Or.inl ?_
          | ((conv => whnf); first | (refine condW_dec ?_ ?_ <;> intro _ <;> try (exfalso; omega)) | refine condW_not ?_ | (refine condW_bool ?_ ?_ <;> intro _ <;> try (exfalso; omega)) | (refine nbC_t (fun _ => ?_) ?_) | (refine nbC_f ?_ (fun _ => ?_)))
          | refine And.intro (by first | omega | (simp only [Int.toNat_natCast] at *; omega) | (simp only [Nat.reduceAdd, Int.cast_ofNat_Int, true_and, and_true]; omega) | kernel_rfl) ?_
          | refine RegW.run ?_
          | fail
        all_goals first
          | (exfalso; omega)
          | exact Dle.tup (X := (cx Try.prog mixed tyT_ok E)) ⟨Dle.s hall, Dle.refl _ _, trivial⟩
          | trace_state
end
end sh
end Go.Proofs.Ytdmbodlkkdeaoaa
