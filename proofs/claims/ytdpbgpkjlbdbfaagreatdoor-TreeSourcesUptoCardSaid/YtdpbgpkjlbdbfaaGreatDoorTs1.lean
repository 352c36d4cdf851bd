/-
  Sources of a tree: the languages.
-/
import Derived.Test.YtdpbgpkjlbdbfaaGreatDoorTs0
namespace Go.Proofs.YtdpbgpkjlbdbfaaGreatDoor
open Go.RowKit
set_option linter.unusedVariables false
set_option linter.unusedSimpArgs false
namespace ts
open rs
def azB : ByteArray := ⟨#[97, 98, 99, 100, 101, 102, 103, 104, 105, 106, 107, 108, 109, 110, 111, 112, 113, 114, 115, 116, 117, 118, 119, 120, 121, 122]⟩
def lang1 (s : ByteArray) : Bool := decide (1 ≤ s.size) && decide (s.size ≤ 8) && decide (trimV s azB = ⟨#[]⟩)
/-- Languages that are right. -/
def langOK (l : List ByteArray) : Bool := decide (1 ≤ l.length) && decide (l.length ≤ 8) && allN l.length (fun k => lang1 (l.getD k ⟨#[]⟩) && !inK l k (l.getD k ⟨#[]⟩))
theorem langOK_no {l : List ByteArray} {k : Nat} (hk : k < l.length) (h : lang1 (l.getD k ⟨#[]⟩) = false ∨ inK l k (l.getD k ⟨#[]⟩) = true) : langOK l = false := by
  unfold langOK
  rw [allN_no hk (by rcases h with h | h <;> rw [h] <;> simp)]
  simp
section
variable (E : Env)
set_option maxRecDepth 100000
theorem languagesFit_sp (l : List ByteArray) : Sp (cx Tryz.prog mixed tyT_ok E) 35 [encStrs l] (dB (langOK l)) := by
  obtain ⟨r, hr⟩ : ∃ r, r = langOK l := ⟨_, rfl⟩
  rw [← hr]
  by_cases h18 : 1 ≤ l.length ∧ l.length ≤ 8
  · have hy : allN l.length (fun k => lang1 (l.getD k ⟨#[]⟩) && !inK l k (l.getD k ⟨#[]⟩)) = true → r = true := fun h => by
      rw [hr]
      unfold langOK
      rw [h]
      simp [h18.1, h18.2]
    have hno : ∀ k, k < l.length → (lang1 (l.getD k ⟨#[]⟩) = false ∨ inK l k (l.getD k ⟨#[]⟩) = true) → r = false := fun k hk h => hr.trans (langOK_no hk h)
    clear hr
    refine Sp.body Tryz.func35 (by kernel_rfl) rfl (by kernel_rfl) (by kernel_rfl) (by kernel_rfl) ?_
    repeat' first
      | (refine codeW_cond rfl ?_; first | (refine condW_dec ?_ ?_ <;> intro _ <;> try (exfalso; omega)) | refine condW_not ?_ | (refine condW_bool ?_ ?_ <;> intro _ <;> try (exfalso; omega)))
      | (refine facW_intro ?_; intro _)
      | refine Or.inl ?_
      | ((conv => whnf); first | (refine condW_dec ?_ ?_ <;> intro _ <;> try (exfalso; omega)) | refine condW_not ?_ | (refine condW_bool ?_ ?_ <;> intro _ <;> try (exfalso; omega)) | (refine nbC_t (fun _ => ?_) ?_) | (refine nbC_f ?_ (fun _ => ?_)))
      | refine And.intro (by first | omega | (simp only [Int.toNat_natCast] at *; omega) | (simp only [Nat.reduceAdd, Int.cast_ofNat_Int, true_and, and_true]; omega) | kernel_rfl) ?_
      | refine RegW.run ?_
      | fail
    all_goals try (exfalso; omega)
    refine ⟨Nat, fun k => [(17, i64 k)], fun k => [], [], fun k => [], fun k => k ≤ l.length ∧ allN k (fun k => lang1 (l.getD k ⟨#[]⟩) && !inK l k (l.getD k ⟨#[]⟩)) = true, fun k => l.length - k, ⟨0, ⟨by omega, rfl⟩, ⟨[], ⟨by kernel_rfl, by kernel_rfl, by kernel_rfl, by kernel_rfl, by kernel_rfl, by kernel_rfl, by kernel_rfl⟩, (by repeat' first | exact trivial | exact rfl | kernel_rfl | exact Dle.of_eq rfl | exact MLe.of_eq rfl | exact Dle.i (by omega) | exact Dle.i (by simp only [Int.toNat_natCast] at *; omega) | exact Dle.nil | exact Dle.rc Dle.nil | exact Option.some_ne_none _ | exact Or.inl rfl | exact Or.inr trivial | omega | (simp only [Int.toNat_natCast] at *; omega) | (intro _ _ _ _; exact Dle.of_eq rfl) | refine And.intro ?_ ?_)⟩⟩, fun k hk => ?_⟩
    obtain ⟨hk, hall⟩ := hk
    by_cases hlt : k < l.length
    · have ht := trim_sp E (l.getD ((k : Int)).toNat ⟨#[]⟩) azB (by decide) (by decide)
      have hz0 : (l.getD ((k : Int)).toNat ⟨#[]⟩).size = (l.getD k ⟨#[]⟩).size := rfl
      have hl : lang1 (l.getD k ⟨#[]⟩) = (decide (1 ≤ (l.getD k ⟨#[]⟩).size) && decide ((l.getD k ⟨#[]⟩).size ≤ 8) && decide (trimV (l.getD ((k : Int)).toNat ⟨#[]⟩) azB = ⟨#[]⟩)) := rfl
      have hn := hno k hlt
      generalize trimV (l.getD ((k : Int)).toNat ⟨#[]⟩) azB = t at ht hl
      by_cases hg : 1 ≤ (l.getD k ⟨#[]⟩).size ∧ (l.getD k ⟨#[]⟩).size ≤ 8 ∧ t = ⟨#[]⟩
      · have hl1 : lang1 (l.getD k ⟨#[]⟩) = true := by rw [hl, decide_eq_true hg.1, decide_eq_true hg.2.1, decide_eq_true hg.2.2]; rfl
        obtain ⟨hg1, hg2, hg3⟩ := hg
        repeat' first
          | (refine codeW_cond rfl ?_; first | (refine condW_dec ?_ ?_ <;> intro _ <;> try (exfalso; omega)) | refine condW_not ?_ | (refine condW_bool ?_ ?_ <;> intro _ <;> try (exfalso; omega)))
          | (refine facW_intro ?_; intro _)
          | refine Or.inl ?_
          | ((conv => whnf); first | (refine condW_dec ?_ ?_ <;> intro _ <;> try (exfalso; omega)) | refine condW_not ?_ | (refine condW_bool ?_ ?_ <;> intro _ <;> try (exfalso; omega)) | (refine nbC_t (fun _ => ?_) ?_) | (refine nbC_f ?_ (fun _ => ?_)))
          | refine And.intro (by first | omega | (simp only [Int.toNat_natCast] at *; omega) | (simp only [Nat.reduceAdd, Int.cast_ofNat_Int, true_and, and_true]; omega) | kernel_rfl) ?_
          | refine RegW.run ?_
          | refine ⟨_, ht, ?_⟩
          | fail
        all_goals first
          | (exfalso; omega)
          | (exfalso; rename_i h; exact h hg3)
          | skip
        all_goals
          refine ⟨Nat, fun j => [(39, i64 j)], fun j => [], [], fun j => [], fun j => j ≤ k ∧ allN j (fun i => decide (¬ l.getD i ⟨#[]⟩ = l.getD k ⟨#[]⟩)) = true, fun j => k - j, ⟨0, ⟨by omega, rfl⟩, ⟨[], ⟨by kernel_rfl, by kernel_rfl, by kernel_rfl, by kernel_rfl, by kernel_rfl, by kernel_rfl, by kernel_rfl⟩, (by repeat' first | exact trivial | exact rfl | kernel_rfl | exact Dle.of_eq rfl | exact MLe.of_eq rfl | exact Dle.i (by omega) | exact Dle.i (by simp only [Int.toNat_natCast] at *; omega) | exact Dle.nil | exact Dle.rc Dle.nil | exact Option.some_ne_none _ | exact Or.inl rfl | exact Or.inr trivial | omega | (simp only [Int.toNat_natCast] at *; omega) | (intro _ _ _ _; exact Dle.of_eq rfl) | refine And.intro ?_ ?_)⟩⟩, fun j hj => ?_⟩
          obtain ⟨hj, hall2⟩ := hj
          by_cases hjk : j < k
          · by_cases hne : l.getD j ⟨#[]⟩ = l.getD k ⟨#[]⟩
            · have h6 : r = false := hn (.inr (by unfold inK; rw [allN_no hjk (by simpa using hne)]; rfl))
              repeat' first
                | (refine codeW_cond rfl ?_; first | (refine condW_dec ?_ ?_ <;> intro _ <;> try (exfalso; omega)) | refine condW_not ?_ | (refine condW_bool ?_ ?_ <;> intro _ <;> try (exfalso; omega)))
                | (refine facW_intro ?_; intro _)
                | refine Or.inl ?_
                | ((conv => whnf); first | (refine condW_dec ?_ ?_ <;> intro _ <;> try (exfalso; omega)) | refine condW_not ?_ | (refine condW_bool ?_ ?_ <;> intro _ <;> try (exfalso; omega)) | (refine nbC_t (fun _ => ?_) ?_) | (refine nbC_f ?_ (fun _ => ?_)))
                | refine And.intro (by first | omega | (simp only [Int.toNat_natCast] at *; omega) | (simp only [Nat.reduceAdd, Int.cast_ofNat_Int, true_and, and_true]; omega) | kernel_rfl) ?_
                | refine RegW.run ?_
                | fail
              all_goals first
                | exact Dle.bo h6.symm
                | (exfalso; rename_i h; exact h hne.symm)
                | (exfalso; rename_i h; exact h hne)
                | trace_state
            · repeat' first
                | (refine codeW_cond rfl ?_; first | (refine condW_dec ?_ ?_ <;> intro _ <;> try (exfalso; omega)) | refine condW_not ?_ | (refine condW_bool ?_ ?_ <;> intro _ <;> try (exfalso; omega)))
                | (refine facW_intro ?_; intro _)
                | refine Or.inl ?_
                | ((conv => whnf); first | (refine condW_dec ?_ ?_ <;> intro _ <;> try (exfalso; omega)) | refine condW_not ?_ | (refine condW_bool ?_ ?_ <;> intro _ <;> try (exfalso; omega)) | (refine nbC_t (fun _ => ?_) ?_) | (refine nbC_f ?_ (fun _ => ?_)))
                | refine And.intro (by first | omega | (simp only [Int.toNat_natCast] at *; omega) | (simp only [Nat.reduceAdd, Int.cast_ofNat_Int, true_and, and_true]; omega) | kernel_rfl) ?_
                | refine RegW.run ?_
                | fail
              all_goals first
                | exact ⟨j + 1, ⟨by omega, allN_succ hall2 (by simpa using hne)⟩, ⟨[], ⟨by kernel_rfl, by kernel_rfl, by kernel_rfl, by kernel_rfl, by kernel_rfl, by kernel_rfl, by kernel_rfl⟩, (by repeat' first | exact trivial | exact rfl | kernel_rfl | exact Dle.of_eq rfl | exact MLe.of_eq rfl | exact Dle.i (by omega) | exact Dle.i (by simp only [Int.toNat_natCast] at *; omega) | exact Dle.nil | exact Dle.rc Dle.nil | exact Option.some_ne_none _ | exact Or.inl rfl | exact Or.inr trivial | omega | (simp only [Int.toNat_natCast] at *; omega) | (intro _ _ _ _; exact Dle.of_eq rfl) | refine And.intro ?_ ?_)⟩, by first | omega | (dsimp only; omega)⟩
                | (exfalso; rename_i h; exact hne h.symm)
                | (exfalso; rename_i h; exact hne h)
                | trace_state
          · have hjk2 : j = k := by omega
            subst hjk2
            repeat' first
              | (refine codeW_cond rfl ?_; first | (refine condW_dec ?_ ?_ <;> intro _ <;> try (exfalso; omega)) | refine condW_not ?_ | (refine condW_bool ?_ ?_ <;> intro _ <;> try (exfalso; omega)))
              | (refine facW_intro ?_; intro _)
              | refine Or.inl ?_
              | ((conv => whnf); first | (refine condW_dec ?_ ?_ <;> intro _ <;> try (exfalso; omega)) | refine condW_not ?_ | (refine condW_bool ?_ ?_ <;> intro _ <;> try (exfalso; omega)) | (refine nbC_t (fun _ => ?_) ?_) | (refine nbC_f ?_ (fun _ => ?_)))
              | refine And.intro (by first | omega | (simp only [Int.toNat_natCast] at *; omega) | (simp only [Nat.reduceAdd, Int.cast_ofNat_Int, true_and, and_true]; omega) | kernel_rfl) ?_
              | refine RegW.run ?_
              | fail
            all_goals first
              | exact ⟨j + 1, ⟨by omega, allN_succ hall (by rw [hl1]; unfold inK; rw [hall2]; rfl)⟩, ⟨[], ⟨by kernel_rfl, by kernel_rfl, by kernel_rfl, by kernel_rfl, by kernel_rfl, by kernel_rfl, by kernel_rfl⟩, (by repeat' first | exact trivial | exact rfl | kernel_rfl | exact Dle.of_eq rfl | exact MLe.of_eq rfl | exact Dle.i (by omega) | exact Dle.i (by simp only [Int.toNat_natCast] at *; omega) | exact Dle.nil | exact Dle.rc Dle.nil | exact Option.some_ne_none _ | exact Or.inl rfl | exact Or.inr trivial | omega | (simp only [Int.toNat_natCast] at *; omega) | (intro _ _ _ _; exact Dle.of_eq rfl) | refine And.intro ?_ ?_)⟩, by first | omega | (dsimp only; omega)⟩
              | trace_state
      · have hr : r = false := hn (.inl (by
          rw [hl]
          refine Bool.eq_false_iff.2 (fun h => hg ?_)
          simp only [Bool.and_eq_true, decide_eq_true_eq] at h
          exact ⟨h.1.1, h.1.2, h.2⟩))
        repeat' first
          | (refine codeW_cond rfl ?_; first | (refine condW_dec ?_ ?_ <;> intro _ <;> try (exfalso; omega)) | refine condW_not ?_ | (refine condW_bool ?_ ?_ <;> intro _ <;> try (exfalso; omega)))
          | (refine facW_intro ?_; intro _)
          | refine Or.inl ?_
          | ((conv => whnf); first | (refine condW_dec ?_ ?_ <;> intro _ <;> try (exfalso; omega)) | refine condW_not ?_ | (refine condW_bool ?_ ?_ <;> intro _ <;> try (exfalso; omega)) | (refine nbC_t (fun _ => ?_) ?_) | (refine nbC_f ?_ (fun _ => ?_)))
          | refine And.intro (by first | omega | (simp only [Int.toNat_natCast] at *; omega) | (simp only [Nat.reduceAdd, Int.cast_ofNat_Int, true_and, and_true]; omega) | kernel_rfl) ?_
          | refine RegW.run ?_
          | refine ⟨_, ht, ?_⟩
          | fail
        all_goals first
          | (exfalso; exact hg ⟨by omega, by omega, Classical.byContradiction (by assumption)⟩)
          | (exfalso; exact hg ⟨by omega, by omega, by assumption⟩)
          | exact Dle.bo hr.symm
          | (exfalso; omega)
          | trace_state
    · obtain rfl : k = l.length := by omega
      have hr := hy hall
      repeat' first
        | (refine codeW_cond rfl ?_; first | (refine condW_dec ?_ ?_ <;> intro _ <;> try (exfalso; omega)) | refine condW_not ?_ | (refine condW_bool ?_ ?_ <;> intro _ <;> try (exfalso; omega)))
        | (refine facW_intro ?_; intro _)
        | refine Or.inl ?_
        | ((conv => whnf); first | (refine condW_dec ?_ ?_ <;> intro _ <;> try (exfalso; omega)) | refine condW_not ?_ | (refine condW_bool ?_ ?_ <;> intro _ <;> try (exfalso; omega)) | (refine nbC_t (fun _ => ?_) ?_) | (refine nbC_f ?_ (fun _ => ?_)))
        | refine And.intro (by first | omega | (simp only [Int.toNat_natCast] at *; omega) | (simp only [Nat.reduceAdd, Int.cast_ofNat_Int, true_and, and_true]; omega) | kernel_rfl) ?_
        | refine RegW.run ?_
        | fail
      all_goals first
        | exact Dle.bo hr.symm
        | (exfalso; omega)
        | trace_state
  · have hr2 : r = false := by
      rw [hr]
      unfold langOK
      by_cases h1 : 1 ≤ l.length
      · rw [decide_eq_true h1, decide_eq_false (fun h => h18 ⟨h1, h⟩)]; rfl
      · rw [decide_eq_false h1]; rfl
    refine Sp.body Tryz.func35 (by kernel_rfl) rfl (by kernel_rfl) (by kernel_rfl) (by kernel_rfl) ?_
    repeat' first
      | (refine codeW_cond rfl ?_; first | (refine condW_dec ?_ ?_ <;> intro _ <;> try (exfalso; omega)) | refine condW_not ?_ | (refine condW_bool ?_ ?_ <;> intro _ <;> try (exfalso; omega)))
      | (refine facW_intro ?_; intro _)
      | refine Or.inl ?_
      | ((conv => whnf); first | (refine condW_dec ?_ ?_ <;> intro _ <;> try (exfalso; omega)) | refine condW_not ?_ | (refine condW_bool ?_ ?_ <;> intro _ <;> try (exfalso; omega)) | (refine nbC_t (fun _ => ?_) ?_) | (refine nbC_f ?_ (fun _ => ?_)))
      | refine And.intro (by first | omega | (simp only [Int.toNat_natCast] at *; omega) | (simp only [Nat.reduceAdd, Int.cast_ofNat_Int, true_and, and_true]; omega) | kernel_rfl) ?_
      | refine RegW.run ?_
      | fail
    all_goals first
      | exact Dle.bo hr2.symm
      | (exfalso; omega)
      | trace_state
theorem languagesOK_sp (l : List ByteArray) : Sp (cx Tryz.prog mixed tyT_ok E) 39 [encStrs l] (dB (langOK l)) := by
  obtain ⟨r, hr⟩ : ∃ r, r = langOK l := ⟨_, rfl⟩
  rw [← hr]
  by_cases h18 : 1 ≤ l.length ∧ l.length ≤ 8
  · have hy : allN l.length (fun k => lang1 (l.getD k ⟨#[]⟩) && !inK l k (l.getD k ⟨#[]⟩)) = true → r = true := fun h => by
      rw [hr]
      unfold langOK
      rw [h]
      simp [h18.1, h18.2]
    have hno : ∀ k, k < l.length → (lang1 (l.getD k ⟨#[]⟩) = false ∨ inK l k (l.getD k ⟨#[]⟩) = true) → r = false := fun k hk h => hr.trans (langOK_no hk h)
    clear hr
    refine Sp.body Tryz.func39 (by kernel_rfl) rfl (by kernel_rfl) (by kernel_rfl) (by kernel_rfl) ?_
    repeat' first
      | (refine codeW_cond rfl ?_; first | (refine condW_dec ?_ ?_ <;> intro _ <;> try (exfalso; omega)) | refine condW_not ?_ | (refine condW_bool ?_ ?_ <;> intro _ <;> try (exfalso; omega)))
      | (refine facW_intro ?_; intro _)
      | refine Or.inl ?_
      | ((conv => whnf); first | (refine condW_dec ?_ ?_ <;> intro _ <;> try (exfalso; omega)) | refine condW_not ?_ | (refine condW_bool ?_ ?_ <;> intro _ <;> try (exfalso; omega)) | (refine nbC_t (fun _ => ?_) ?_) | (refine nbC_f ?_ (fun _ => ?_)))
      | refine And.intro (by first | omega | (simp only [Int.toNat_natCast] at *; omega) | (simp only [Nat.reduceAdd, Int.cast_ofNat_Int, true_and, and_true]; omega) | kernel_rfl) ?_
      | refine RegW.run ?_
      | fail
    all_goals try (exfalso; omega)
    refine ⟨Nat, fun k => [(15, i64 k)], fun k => [], [], fun k => [], fun k => k ≤ l.length ∧ allN k (fun k => lang1 (l.getD k ⟨#[]⟩) && !inK l k (l.getD k ⟨#[]⟩)) = true, fun k => l.length - k, ⟨0, ⟨by omega, rfl⟩, ⟨[], ⟨by kernel_rfl, by kernel_rfl, by kernel_rfl, by kernel_rfl, by kernel_rfl, by kernel_rfl, by kernel_rfl⟩, (by repeat' first | exact trivial | exact rfl | kernel_rfl | exact Dle.of_eq rfl | exact MLe.of_eq rfl | exact Dle.i (by omega) | exact Dle.i (by simp only [Int.toNat_natCast] at *; omega) | exact Dle.nil | exact Dle.rc Dle.nil | exact Option.some_ne_none _ | exact Or.inl rfl | exact Or.inr trivial | omega | (simp only [Int.toNat_natCast] at *; omega) | (intro _ _ _ _; exact Dle.of_eq rfl) | refine And.intro ?_ ?_)⟩⟩, fun k hk => ?_⟩
    obtain ⟨hk, hall⟩ := hk
    by_cases hlt : k < l.length
    · have ht := trim_sp E (l.getD ((k : Int)).toNat ⟨#[]⟩) azB (by decide) (by decide)
      have hc := contS_sp E l k (l.getD ((k : Int)).toNat ⟨#[]⟩) (by omega)
      have hz0 : (l.getD ((k : Int)).toNat ⟨#[]⟩).size = (l.getD k ⟨#[]⟩).size := rfl
      have hl : lang1 (l.getD k ⟨#[]⟩) = (decide (1 ≤ (l.getD k ⟨#[]⟩).size) && decide ((l.getD k ⟨#[]⟩).size ≤ 8) && decide (trimV (l.getD ((k : Int)).toNat ⟨#[]⟩) azB = ⟨#[]⟩)) := rfl
      have hn := hno k hlt
      have hi : inK l k (l.getD k ⟨#[]⟩) = inK l k (l.getD ((k : Int)).toNat ⟨#[]⟩) := rfl
      generalize trimV (l.getD ((k : Int)).toNat ⟨#[]⟩) azB = t at ht hl
      generalize inK l k (l.getD ((k : Int)).toNat ⟨#[]⟩) = b at hc hi
      by_cases hg : (1 ≤ (l.getD k ⟨#[]⟩).size ∧ (l.getD k ⟨#[]⟩).size ≤ 8 ∧ t = ⟨#[]⟩) ∧ b = false
      · have hl1 : lang1 (l.getD k ⟨#[]⟩) = true := by rw [hl, decide_eq_true hg.1.1, decide_eq_true hg.1.2.1, decide_eq_true hg.1.2.2]; rfl
        obtain ⟨⟨hg1, hg2, hg3⟩, hg4⟩ := hg
        repeat' first
          | (refine codeW_cond rfl ?_; first | (refine condW_dec ?_ ?_ <;> intro _ <;> try (exfalso; omega)) | refine condW_not ?_ | (refine condW_bool ?_ ?_ <;> intro _ <;> try (exfalso; omega)))
          | (refine facW_intro ?_; intro _)
          | refine Or.inl ?_
          | ((conv => whnf); first | (refine condW_dec ?_ ?_ <;> intro _ <;> try (exfalso; omega)) | refine condW_not ?_ | (refine condW_bool ?_ ?_ <;> intro _ <;> try (exfalso; omega)) | (refine nbC_t (fun _ => ?_) ?_) | (refine nbC_f ?_ (fun _ => ?_)))
          | refine And.intro (by first | omega | (simp only [Int.toNat_natCast] at *; omega) | (simp only [Nat.reduceAdd, Int.cast_ofNat_Int, true_and, and_true]; omega) | kernel_rfl) ?_
          | refine RegW.run ?_
          | refine ⟨_, ht, ?_⟩
          | refine ⟨_, hc, ?_⟩
          | fail
        all_goals first
          | (exfalso; omega)
          | (exfalso; rename_i h; exact h hg3)
          | (exfalso; rename_i h; rw [hg4] at h; cases h; done)
          | exact ⟨k + 1, ⟨by omega, allN_succ hall (by rw [hl1, hi, hg4]; rfl)⟩, ⟨[], ⟨by kernel_rfl, by kernel_rfl, by kernel_rfl, by kernel_rfl, by kernel_rfl, by kernel_rfl, by kernel_rfl⟩, (by repeat' first | exact trivial | exact rfl | kernel_rfl | exact Dle.of_eq rfl | exact MLe.of_eq rfl | exact Dle.i (by omega) | exact Dle.i (by simp only [Int.toNat_natCast] at *; omega) | exact Dle.nil | exact Dle.rc Dle.nil | exact Option.some_ne_none _ | exact Or.inl rfl | exact Or.inr trivial | omega | (simp only [Int.toNat_natCast] at *; omega) | (intro _ _ _ _; exact Dle.of_eq rfl) | refine And.intro ?_ ?_)⟩, by first | omega | (dsimp only; omega)⟩
          | trace_state
      · have hr : r = false := by
          cases b
          · refine hn (.inl ?_)
            rw [hl]
            refine Bool.eq_false_iff.2 (fun h => hg ?_)
            simp only [Bool.and_eq_true, decide_eq_true_eq] at h
            exact ⟨⟨h.1.1, h.1.2, h.2⟩, rfl⟩
          · exact hn (.inr hi)
        repeat' first
          | (refine codeW_cond rfl ?_; first | (refine condW_dec ?_ ?_ <;> intro _ <;> try (exfalso; omega)) | refine condW_not ?_ | (refine condW_bool ?_ ?_ <;> intro _ <;> try (exfalso; omega)))
          | (refine facW_intro ?_; intro _)
          | refine Or.inl ?_
          | ((conv => whnf); first | (refine condW_dec ?_ ?_ <;> intro _ <;> try (exfalso; omega)) | refine condW_not ?_ | (refine condW_bool ?_ ?_ <;> intro _ <;> try (exfalso; omega)) | (refine nbC_t (fun _ => ?_) ?_) | (refine nbC_f ?_ (fun _ => ?_)))
          | refine And.intro (by first | omega | (simp only [Int.toNat_natCast] at *; omega) | (simp only [Nat.reduceAdd, Int.cast_ofNat_Int, true_and, and_true]; omega) | kernel_rfl) ?_
          | refine RegW.run ?_
          | refine ⟨_, ht, ?_⟩
          | refine ⟨_, hc, ?_⟩
          | fail
        all_goals first
          | exact Dle.bo hr.symm
          | (exfalso; omega)
          | (exfalso; exact hg ⟨⟨by omega, by omega, by assumption⟩, by simp_all⟩)
          | (exfalso; exact hg ⟨⟨by omega, by omega, Classical.byContradiction (by assumption)⟩, by simp_all⟩)
          | trace_state
    · obtain rfl : k = l.length := by omega
      have hr := hy hall
      repeat' first
        | (refine codeW_cond rfl ?_; first | (refine condW_dec ?_ ?_ <;> intro _ <;> try (exfalso; omega)) | refine condW_not ?_ | (refine condW_bool ?_ ?_ <;> intro _ <;> try (exfalso; omega)))
        | (refine facW_intro ?_; intro _)
        | refine Or.inl ?_
        | ((conv => whnf); first | (refine condW_dec ?_ ?_ <;> intro _ <;> try (exfalso; omega)) | refine condW_not ?_ | (refine condW_bool ?_ ?_ <;> intro _ <;> try (exfalso; omega)) | (refine nbC_t (fun _ => ?_) ?_) | (refine nbC_f ?_ (fun _ => ?_)))
        | refine And.intro (by first | omega | (simp only [Int.toNat_natCast] at *; omega) | (simp only [Nat.reduceAdd, Int.cast_ofNat_Int, true_and, and_true]; omega) | kernel_rfl) ?_
        | refine RegW.run ?_
        | fail
      all_goals first
        | exact Dle.bo hr.symm
        | (exfalso; omega)
        | trace_state
  · have hr2 : r = false := by
      rw [hr]
      unfold langOK
      by_cases h1 : 1 ≤ l.length
      · rw [decide_eq_true h1, decide_eq_false (fun h => h18 ⟨h1, h⟩)]; rfl
      · rw [decide_eq_false h1]; rfl
    refine Sp.body Tryz.func39 (by kernel_rfl) rfl (by kernel_rfl) (by kernel_rfl) (by kernel_rfl) ?_
    repeat' first
      | (refine codeW_cond rfl ?_; first | (refine condW_dec ?_ ?_ <;> intro _ <;> try (exfalso; omega)) | refine condW_not ?_ | (refine condW_bool ?_ ?_ <;> intro _ <;> try (exfalso; omega)))
      | (refine facW_intro ?_; intro _)
      | refine Or.inl ?_
      | ((conv => whnf); first | (refine condW_dec ?_ ?_ <;> intro _ <;> try (exfalso; omega)) | refine condW_not ?_ | (refine condW_bool ?_ ?_ <;> intro _ <;> try (exfalso; omega)) | (refine nbC_t (fun _ => ?_) ?_) | (refine nbC_f ?_ (fun _ => ?_)))
      | refine And.intro (by first | omega | (simp only [Int.toNat_natCast] at *; omega) | (simp only [Nat.reduceAdd, Int.cast_ofNat_Int, true_and, and_true]; omega) | kernel_rfl) ?_
      | refine RegW.run ?_
      | fail
    all_goals first
      | exact Dle.bo hr2.symm
      | (exfalso; omega)
      | trace_state
end
end ts
end Go.Proofs.YtdpbgpkjlbdbfaaGreatDoor
