/-
  Strings among strings. slices.Contains and slices.BinarySearch of an own row of names that is lent.
-/
import Derived.Test.YtjbgafbijamckaaGreatDoorS3
import Derived.Test.YtjbgafbijamckaaGreatDoorIn1
import Derived.Test.YtjbgafbijamckaaGreatDoorS1
import Derived.Test.YtjbgafbijamckaaGreatDoorCr2
namespace Go.Proofs.YtjbgafbijamckaaGreatDoor
open Go.RowKit
set_option linter.unusedVariables false
set_option linter.unusedSimpArgs false
namespace ts
/-- Whether a string is among the first k ones. -/
def inK (ps : List ByteArray) (k : Nat) (s : ByteArray) : Bool := !allN k (fun i => decide (¬ ps.getD i ⟨#[]⟩ = s))
theorem first_no {p : Nat → Bool} : ∀ {k : Nat}, allN k p = false → ∃ m, m < k ∧ p m = false ∧ ∀ i, i < m → p i = true
  | 0, h => by simp [allN] at h
  | k + 1, h => by
    by_cases h1 : allN k p = true
    · refine ⟨k, by omega, ?_, fun i hi => allN_iff.1 h1 i hi⟩
      by_cases h2 : p k = true
      · rw [allN_succ h1 h2] at h
        cases h
      · simpa using h2
    · obtain ⟨m, h2, h3, h4⟩ := first_no (by simpa using h1 : allN k p = false)
      exact ⟨m, by omega, h3, h4⟩
end ts
end Go.Proofs.YtjbgafbijamckaaGreatDoor
namespace Go.Proofs.YtjbgafbijamckaaGreatDoor
open Go.RowKit
set_option linter.unusedVariables false
set_option linter.unusedSimpArgs false
namespace ins
open cr
theorem swp_o {a b l : Nat} (h1 : l ≠ a) (h2 : l ≠ b) : swp a b l = l := by
  have e1 : Nat.beq l a = false := by
    cases h : Nat.beq l a with
    | false => rfl
    | true => exact absurd (Nat.eq_of_beq_eq_true h) h1
  have e2 : Nat.beq l b = false := by
    cases h : Nat.beq l b with
    | false => rfl
    | true => exact absurd (Nat.eq_of_beq_eq_true h) h2
  unfold swp
  rw [e1, e2]
  rfl
section
variable (E : Env)
set_option maxRecDepth 100000
theorem isNaN1_sp (x : ByteArray) : Sp (cx Tryz.prog mixed tyT_ok E) 99 [dS x] (dB false) := by
  refine Sp.body Tryz.func99 (by kernel_rfl) rfl (by kernel_rfl) (by kernel_rfl) (by kernel_rfl) ?_
  repeat' first
    | (refine codeW_cond rfl ?_; first | (refine condW_dec ?_ ?_ <;> intro _ <;> try (exfalso; omega)) | refine condW_not ?_ | (refine condW_bool ?_ ?_ <;> intro _ <;> try (exfalso; omega)))
    | (refine facW_intro ?_; intro _)
    | refine Or.inl ?_
    | ((conv => whnf); first | (refine condW_dec ?_ ?_ <;> intro _ <;> try (exfalso; omega)) | refine condW_not ?_ | (refine condW_bool ?_ ?_ <;> intro _ <;> try (exfalso; omega)) | (refine nbC_t (fun _ => ?_) ?_) | (refine nbC_f ?_ (fun _ => ?_)))
    | refine And.intro (by first | omega | (simp only [Int.toNat_natCast] at *; omega) | (simp only [Nat.reduceAdd, Int.cast_ofNat_Int, true_and, and_true]; omega)  | (simp only [cx, view, Nat.reduceAdd, Int.toNat_natCast]; omega) | kernel_rfl) ?_
    | refine RegW.run ?_
    | fail
  all_goals first
    | exact Dle.bo (by simp)
    | exact Dle.refl _ _
    | trace_state
theorem isNaN2_sp (x : ByteArray) : Sp (cx Tryz.prog mixed tyT_ok E) 70 [dS x] (dB false) := by
  refine Sp.body Tryz.func70 (by kernel_rfl) rfl (by kernel_rfl) (by kernel_rfl) (by kernel_rfl) ?_
  repeat' first
    | (refine codeW_cond rfl ?_; first | (refine condW_dec ?_ ?_ <;> intro _ <;> try (exfalso; omega)) | refine condW_not ?_ | (refine condW_bool ?_ ?_ <;> intro _ <;> try (exfalso; omega)))
    | (refine facW_intro ?_; intro _)
    | refine Or.inl ?_
    | ((conv => whnf); first | (refine condW_dec ?_ ?_ <;> intro _ <;> try (exfalso; omega)) | refine condW_not ?_ | (refine condW_bool ?_ ?_ <;> intro _ <;> try (exfalso; omega)) | (refine nbC_t (fun _ => ?_) ?_) | (refine nbC_f ?_ (fun _ => ?_)))
    | refine And.intro (by first | omega | (simp only [Int.toNat_natCast] at *; omega) | (simp only [Nat.reduceAdd, Int.cast_ofNat_Int, true_and, and_true]; omega)  | (simp only [cx, view, Nat.reduceAdd, Int.toNat_natCast]; omega) | kernel_rfl) ?_
    | refine RegW.run ?_
    | fail
  all_goals first
    | exact Dle.bo (by simp)
    | exact Dle.refl _ _
    | trace_state
theorem less_sp (x y : ByteArray) : Sp (cx Tryz.prog mixed tyT_ok E) 69 [dS x, dS y] (dB (strLt x y)) := by
  refine Sp.body Tryz.func69 (by kernel_rfl) rfl (by kernel_rfl) (by kernel_rfl) (by kernel_rfl) ?_
  repeat' first
    | (refine codeW_cond rfl ?_; first | (refine condW_dec ?_ ?_ <;> intro _ <;> try (exfalso; omega)) | refine condW_not ?_ | (refine condW_bool ?_ ?_ <;> intro _ <;> try (exfalso; omega)))
    | (refine facW_intro ?_; intro _)
    | refine Or.inl ?_
    | ((conv => whnf); first | (refine condW_dec ?_ ?_ <;> intro _ <;> try (exfalso; omega)) | refine condW_not ?_ | (refine condW_bool ?_ ?_ <;> intro _ <;> try (exfalso; omega)) | (refine nbC_t (fun _ => ?_) ?_) | (refine nbC_f ?_ (fun _ => ?_)))
    | refine And.intro (by first | omega | (simp only [Int.toNat_natCast] at *; omega) | (simp only [Nat.reduceAdd, Int.cast_ofNat_Int, true_and, and_true]; omega)  | (simp only [cx, view, Nat.reduceAdd, Int.toNat_natCast]; omega) | kernel_rfl) ?_
    | refine RegW.run ?_
    | refine ⟨_, isNaN1_sp E x, ?_⟩
    | refine ⟨_, isNaN1_sp E y, ?_⟩
    | fail
  all_goals first
    | exact Dle.refl _ _
    | trace_state
theorem contI0_sp (ps : List ByteArray) (n k : Nat) (s : ByteArray) (hk : k ≤ n) (hn : n ≤ 1000000000000) : SpH (cx Tryz.prog mixed tyT_ok E) 44 [.own 2000 1 0 k, dS s] [(2000, .row 9 n (fun i _ => dS (ps.getD i ⟨#[]⟩)))] (dB (ts.inK ps k s)) [(2000, .row 9 n (fun i _ => dS (ps.getD i ⟨#[]⟩)))] := by
  have key : ∃ r : Int, SpH (cx Tryz.prog mixed tyT_ok E) 68 [.own 2000 1 0 k, dS s] [(2000, .row 9 n (fun i _ => dS (ps.getD i ⟨#[]⟩)))] (i64 r) [(2000, .row 9 n (fun i _ => dS (ps.getD i ⟨#[]⟩)))] ∧ (0 ≤ r ↔ ts.inK ps k s = true) := by
    by_cases hm : allN k (fun i => decide (¬ ps.getD i ⟨#[]⟩ = s)) = true
    · have hne : ∀ j, j < k → ¬ ps.getD (0 + j) ⟨#[]⟩ = s := fun j hj => by rw [Nat.zero_add]; simpa using allN_iff.1 hm j hj
      refine ⟨-1, ?_, ⟨fun h => by omega, fun h => by unfold ts.inK at h; rw [hm] at h; cases h⟩⟩
      refine SpH.body Tryz.func68 (by kernel_rfl) rfl (by kernel_rfl) (by kernel_rfl) (by kernel_rfl) ?_
      repeat' first
        | (refine codeW_cond rfl ?_; first | (refine condW_dec ?_ ?_ <;> intro _ <;> try (exfalso; omega)) | refine condW_not ?_ | (refine condW_bool ?_ ?_ <;> intro _ <;> try (exfalso; omega)))
        | (refine facW_intro ?_; intro _)
        | refine Or.inl ?_
        | ((conv => whnf); first | (refine condW_dec ?_ ?_ <;> intro _ <;> try (exfalso; omega)) | refine condW_not ?_ | (refine condW_bool ?_ ?_ <;> intro _ <;> try (exfalso; omega)) | (refine nbC_t (fun _ => ?_) ?_) | (refine nbC_f ?_ (fun _ => ?_)))
        | refine And.intro (by first | omega | (simp only [Int.toNat_natCast] at *; omega) | (simp only [Nat.reduceAdd, Int.cast_ofNat_Int, true_and, and_true]; omega)  | (simp only [cx, view, Nat.reduceAdd, Int.toNat_natCast]; omega) | kernel_rfl) ?_
        | refine RegW.run ?_
        | fail
      refine ⟨Nat, fun j => [(8, i64 j)], fun j => [], [2000], fun j => [], fun j => j ≤ k, fun j => k - j, ⟨0, by omega, ⟨[], ⟨by kernel_rfl, by kernel_rfl, by kernel_rfl, by kernel_rfl, by kernel_rfl, by kernel_rfl, by kernel_rfl⟩, (by repeat' first | exact trivial | exact rfl | kernel_rfl | exact Dle.of_eq rfl | exact MLe.of_eq rfl | exact Dle.i (by omega) | exact Dle.i (by simp only [Int.toNat_natCast] at *; omega) | exact Dle.nil | exact Dle.rc Dle.nil | exact Option.some_ne_none _ | exact Or.inl rfl | exact Or.inr trivial | omega | (simp only [Int.toNat_natCast] at *; omega) | (intro _ _ _ _; exact Dle.of_eq rfl) | refine And.intro ?_ ?_)⟩⟩, fun j hj => ?_⟩
      have hj : j ≤ k := hj
      by_cases hlt : j < k
      · have hne := hne j hlt
        repeat' first
          | (refine codeW_cond rfl ?_; first | (refine condW_dec ?_ ?_ <;> intro _ <;> try (exfalso; omega)) | refine condW_not ?_ | (refine condW_bool ?_ ?_ <;> intro _ <;> try (exfalso; omega)))
          | (refine facW_intro ?_; intro _)
          | refine Or.inl ?_
          | ((conv => whnf); first | (refine condW_dec ?_ ?_ <;> intro _ <;> try (exfalso; omega)) | refine condW_not ?_ | (refine condW_bool ?_ ?_ <;> intro _ <;> try (exfalso; omega)) | (refine nbC_t (fun _ => ?_) ?_) | (refine nbC_f ?_ (fun _ => ?_)))
          | refine And.intro (by first | omega | (simp only [Int.toNat_natCast] at *; omega) | (simp only [Nat.reduceAdd, Int.cast_ofNat_Int, true_and, and_true]; omega)  | (simp only [cx, view, Nat.reduceAdd, Int.toNat_natCast]; omega) | kernel_rfl) ?_
          | refine RegW.run ?_
          | fail
        all_goals first
          | exact ⟨j + 1, by omega, ⟨[], ⟨by kernel_rfl, by kernel_rfl, by kernel_rfl, by kernel_rfl, by kernel_rfl, by kernel_rfl, by kernel_rfl⟩, (by repeat' first | exact trivial | exact rfl | kernel_rfl | exact Dle.of_eq rfl | exact MLe.of_eq rfl | exact Dle.i (by omega) | exact Dle.i (by simp only [Int.toNat_natCast] at *; omega) | exact Dle.nil | exact Dle.rc Dle.nil | exact Option.some_ne_none _ | exact Or.inl rfl | exact Or.inr trivial | omega | (simp only [Int.toNat_natCast] at *; omega) | (intro _ _ _ _; exact Dle.of_eq rfl) | refine And.intro ?_ ?_)⟩, by first | omega | (dsimp only; omega)⟩
          | (exfalso; rename_i h; exact hne h)
          | (exfalso; rename_i h; exact hne h.symm)
          | trace_state
      · repeat' first
          | (refine codeW_cond rfl ?_; first | (refine condW_dec ?_ ?_ <;> intro _ <;> try (exfalso; omega)) | refine condW_not ?_ | (refine condW_bool ?_ ?_ <;> intro _ <;> try (exfalso; omega)))
          | (refine facW_intro ?_; intro _)
          | refine Or.inl ?_
          | ((conv => whnf); first | (refine condW_dec ?_ ?_ <;> intro _ <;> try (exfalso; omega)) | refine condW_not ?_ | (refine condW_bool ?_ ?_ <;> intro _ <;> try (exfalso; omega)) | (refine nbC_t (fun _ => ?_) ?_) | (refine nbC_f ?_ (fun _ => ?_)))
          | refine And.intro (by first | omega | (simp only [Int.toNat_natCast] at *; omega) | (simp only [Nat.reduceAdd, Int.cast_ofNat_Int, true_and, and_true]; omega)  | (simp only [cx, view, Nat.reduceAdd, Int.toNat_natCast]; omega) | kernel_rfl) ?_
          | refine RegW.run ?_
          | fail
        all_goals first
          | exact ⟨[(2000, .row 9 n (fun i _ => dS (ps.getD i ⟨#[]⟩)))], [], rfl, ⟨[], ⟨by kernel_rfl, by kernel_rfl, by kernel_rfl, by kernel_rfl, by kernel_rfl, by kernel_rfl, by kernel_rfl⟩, ⟨⟨rfl, Dle.refl _ _⟩, trivial⟩, (by repeat' first | exact trivial | exact rfl | kernel_rfl | exact Dle.of_eq rfl | exact MLe.of_eq rfl | exact Dle.i (by omega) | exact Dle.i (by simp only [Int.toNat_natCast] at *; omega) | exact Dle.nil | exact Dle.rc Dle.nil | exact Option.some_ne_none _ | exact Or.inl rfl | exact Or.inr trivial | omega | (simp only [Int.toNat_natCast] at *; omega) | (intro _ _ _ _; exact Dle.of_eq rfl) | refine And.intro ?_ ?_), trivial, trivial⟩, rfl⟩
          | trace_state
    · have hm : allN k (fun i => decide (¬ ps.getD i ⟨#[]⟩ = s)) = false := by simpa using hm
      obtain ⟨m, hm1, hm2, hm3⟩ := ts.first_no hm
      have hm2 : ps.getD (0 + m) ⟨#[]⟩ = s := by rw [Nat.zero_add]; simpa using hm2
      have hm3 : ∀ j, j < m → ¬ ps.getD (0 + j) ⟨#[]⟩ = s := fun j hj => by rw [Nat.zero_add]; simpa using hm3 j hj
      refine ⟨m, ?_, ⟨fun _ => by unfold ts.inK; rw [hm]; rfl, fun _ => by omega⟩⟩
      refine SpH.body Tryz.func68 (by kernel_rfl) rfl (by kernel_rfl) (by kernel_rfl) (by kernel_rfl) ?_
      repeat' first
        | (refine codeW_cond rfl ?_; first | (refine condW_dec ?_ ?_ <;> intro _ <;> try (exfalso; omega)) | refine condW_not ?_ | (refine condW_bool ?_ ?_ <;> intro _ <;> try (exfalso; omega)))
        | (refine facW_intro ?_; intro _)
        | refine Or.inl ?_
        | ((conv => whnf); first | (refine condW_dec ?_ ?_ <;> intro _ <;> try (exfalso; omega)) | refine condW_not ?_ | (refine condW_bool ?_ ?_ <;> intro _ <;> try (exfalso; omega)) | (refine nbC_t (fun _ => ?_) ?_) | (refine nbC_f ?_ (fun _ => ?_)))
        | refine And.intro (by first | omega | (simp only [Int.toNat_natCast] at *; omega) | (simp only [Nat.reduceAdd, Int.cast_ofNat_Int, true_and, and_true]; omega)  | (simp only [cx, view, Nat.reduceAdd, Int.toNat_natCast]; omega) | kernel_rfl) ?_
        | refine RegW.run ?_
        | fail
      refine ⟨Nat, fun j => [(8, i64 j)], fun j => [], [2000], fun j => [], fun j => j ≤ m, fun j => k - j, ⟨0, by omega, ⟨[], ⟨by kernel_rfl, by kernel_rfl, by kernel_rfl, by kernel_rfl, by kernel_rfl, by kernel_rfl, by kernel_rfl⟩, (by repeat' first | exact trivial | exact rfl | kernel_rfl | exact Dle.of_eq rfl | exact MLe.of_eq rfl | exact Dle.i (by omega) | exact Dle.i (by simp only [Int.toNat_natCast] at *; omega) | exact Dle.nil | exact Dle.rc Dle.nil | exact Option.some_ne_none _ | exact Or.inl rfl | exact Or.inr trivial | omega | (simp only [Int.toNat_natCast] at *; omega) | (intro _ _ _ _; exact Dle.of_eq rfl) | refine And.intro ?_ ?_)⟩⟩, fun j hj => ?_⟩
      have hj : j ≤ m := hj
      by_cases hjm : j = m
      · subst hjm
        repeat' first
          | (refine codeW_cond rfl ?_; first | (refine condW_dec ?_ ?_ <;> intro _ <;> try (exfalso; omega)) | refine condW_not ?_ | (refine condW_bool ?_ ?_ <;> intro _ <;> try (exfalso; omega)))
          | (refine facW_intro ?_; intro _)
          | refine Or.inl ?_
          | ((conv => whnf); first | (refine condW_dec ?_ ?_ <;> intro _ <;> try (exfalso; omega)) | refine condW_not ?_ | (refine condW_bool ?_ ?_ <;> intro _ <;> try (exfalso; omega)) | (refine nbC_t (fun _ => ?_) ?_) | (refine nbC_f ?_ (fun _ => ?_)))
          | refine And.intro (by first | omega | (simp only [Int.toNat_natCast] at *; omega) | (simp only [Nat.reduceAdd, Int.cast_ofNat_Int, true_and, and_true]; omega)  | (simp only [cx, view, Nat.reduceAdd, Int.toNat_natCast]; omega) | kernel_rfl) ?_
          | refine RegW.run ?_
          | fail
        all_goals first
          | exact ⟨[(2000, .row 9 n (fun i _ => dS (ps.getD i ⟨#[]⟩)))], [], rfl, ⟨[], ⟨by kernel_rfl, by kernel_rfl, by kernel_rfl, by kernel_rfl, by kernel_rfl, by kernel_rfl, by kernel_rfl⟩, ⟨⟨rfl, Dle.refl _ _⟩, trivial⟩, (by repeat' first | exact trivial | exact rfl | kernel_rfl | exact Dle.of_eq rfl | exact MLe.of_eq rfl | exact Dle.i (by omega) | exact Dle.i (by simp only [Int.toNat_natCast] at *; omega) | exact Dle.nil | exact Dle.rc Dle.nil | exact Option.some_ne_none _ | exact Or.inl rfl | exact Or.inr trivial | omega | (simp only [Int.toNat_natCast] at *; omega) | (intro _ _ _ _; exact Dle.of_eq rfl) | refine And.intro ?_ ?_), trivial, trivial⟩, rfl⟩
          | (exfalso; rename_i h; exact h hm2.symm)
          | (exfalso; rename_i h; exact h hm2)
          | trace_state
      · have hne := hm3 j (by omega)
        repeat' first
          | (refine codeW_cond rfl ?_; first | (refine condW_dec ?_ ?_ <;> intro _ <;> try (exfalso; omega)) | refine condW_not ?_ | (refine condW_bool ?_ ?_ <;> intro _ <;> try (exfalso; omega)))
          | (refine facW_intro ?_; intro _)
          | refine Or.inl ?_
          | ((conv => whnf); first | (refine condW_dec ?_ ?_ <;> intro _ <;> try (exfalso; omega)) | refine condW_not ?_ | (refine condW_bool ?_ ?_ <;> intro _ <;> try (exfalso; omega)) | (refine nbC_t (fun _ => ?_) ?_) | (refine nbC_f ?_ (fun _ => ?_)))
          | refine And.intro (by first | omega | (simp only [Int.toNat_natCast] at *; omega) | (simp only [Nat.reduceAdd, Int.cast_ofNat_Int, true_and, and_true]; omega)  | (simp only [cx, view, Nat.reduceAdd, Int.toNat_natCast]; omega) | kernel_rfl) ?_
          | refine RegW.run ?_
          | fail
        all_goals first
          | exact ⟨j + 1, by omega, ⟨[], ⟨by kernel_rfl, by kernel_rfl, by kernel_rfl, by kernel_rfl, by kernel_rfl, by kernel_rfl, by kernel_rfl⟩, (by repeat' first | exact trivial | exact rfl | kernel_rfl | exact Dle.of_eq rfl | exact MLe.of_eq rfl | exact Dle.i (by omega) | exact Dle.i (by simp only [Int.toNat_natCast] at *; omega) | exact Dle.nil | exact Dle.rc Dle.nil | exact Option.some_ne_none _ | exact Or.inl rfl | exact Or.inr trivial | omega | (simp only [Int.toNat_natCast] at *; omega) | (intro _ _ _ _; exact Dle.of_eq rfl) | refine And.intro ?_ ?_)⟩, by first | omega | (dsimp only; omega)⟩
          | (exfalso; rename_i h; exact hne h)
          | (exfalso; rename_i h; exact hne h.symm)
          | trace_state
  obtain ⟨r, h1, h2⟩ := key
  refine SpH.body Tryz.func44 (by kernel_rfl) rfl (by kernel_rfl) (by kernel_rfl) (by kernel_rfl) ?_
  repeat' first
    | refine Or.inr ⟨_, _, _, h1, by kernel_rfl, (by repeat' first | exact trivial | exact rfl | kernel_rfl | exact Dle.of_eq rfl | exact MLe.of_eq rfl | exact Dle.i (by omega) | exact Dle.i (by simp only [Int.toNat_natCast] at *; omega) | exact Dle.nil | exact Dle.rc Dle.nil | exact Option.some_ne_none _ | exact Or.inl rfl | exact Or.inr trivial | omega | (simp only [Int.toNat_natCast] at *; omega) | (intro _ _ _ _; exact Dle.of_eq rfl) | refine And.intro ?_ ?_), ?_⟩
    | (refine codeW_cond rfl ?_; first | (refine condW_dec ?_ ?_ <;> intro _ <;> try (exfalso; omega)) | refine condW_not ?_ | (refine condW_bool ?_ ?_ <;> intro _ <;> try (exfalso; omega)))
    | (refine facW_intro ?_; intro _)
    | refine Or.inl ?_
    | ((conv => whnf); first | (refine condW_dec ?_ ?_ <;> intro _ <;> try (exfalso; omega)) | refine condW_not ?_ | (refine condW_bool ?_ ?_ <;> intro _ <;> try (exfalso; omega)) | (refine nbC_t (fun _ => ?_) ?_) | (refine nbC_f ?_ (fun _ => ?_)))
    | refine And.intro (by first | omega | (simp only [Int.toNat_natCast] at *; omega) | (simp only [Nat.reduceAdd, Int.cast_ofNat_Int, true_and, and_true]; omega)  | (simp only [cx, view, Nat.reduceAdd, Int.toNat_natCast]; omega) | kernel_rfl) ?_
    | refine RegW.run ?_
    | fail
  all_goals first
    | exact ⟨[(2000, .row 9 n (fun i _ => dS (ps.getD i ⟨#[]⟩)))], [], rfl, ⟨[], ⟨by kernel_rfl, by kernel_rfl, by kernel_rfl, by kernel_rfl, by kernel_rfl, by kernel_rfl, by kernel_rfl⟩, ⟨⟨rfl, Dle.bo (by rw [Bool.eq_iff_iff, decide_eq_true_eq]; exact h2)⟩, trivial⟩, (by repeat' first | exact trivial | exact rfl | kernel_rfl | exact Dle.of_eq rfl | exact MLe.of_eq rfl | exact Dle.i (by omega) | exact Dle.i (by simp only [Int.toNat_natCast] at *; omega) | exact Dle.nil | exact Dle.rc Dle.nil | exact Option.some_ne_none _ | exact Or.inl rfl | exact Or.inr trivial | omega | (simp only [Int.toNat_natCast] at *; omega) | (intro _ _ _ _; exact Dle.of_eq rfl) | refine And.intro ?_ ?_), trivial, trivial⟩, rfl⟩
    | trace_state
theorem contI_sp (L : Nat) (ps : List ByteArray) (n k : Nat) (s : ByteArray) (hk : k ≤ n) (hn : n ≤ 1000000000000) : SpH (cx Tryz.prog mixed tyT_ok E) 44 [.own L 1 0 k, dS s] [(L, .row 9 n (fun i _ => dS (ps.getD i ⟨#[]⟩)))] (dB (ts.inK ps k s)) [(L, .row 9 n (fun i _ => dS (ps.getD i ⟨#[]⟩)))] := by
  have h := (contI0_sp E ps n k s hk hn).swap 2000 L
  simpa only [D.renL, D.ren, renH, Ob.ren, swp_l] using h
theorem bs0_sp (l : List ByteArray) (x : ByteArray) (n : Nat) (hn : n ≤ 1000000000000) : SpH (cx Tryz.prog mixed tyT_ok E) 45 [.own 2000 1 0 n, dS x] [(2000, .row 9 n (rowK l))] (.tup [i64 (bsr l x 0 n), dB (decide (bsr l x 0 n < n) && decide (l.getD (bsr l x 0 n) ⟨#[]⟩ = x))]) [(2000, .row 9 n (rowK l))] := by
  have hle := bsr_le l x (n + 1) 0 n (by omega) (by omega)
  refine SpH.body Tryz.func45 (by kernel_rfl) rfl (by kernel_rfl) (by kernel_rfl) (by kernel_rfl) ?_
  repeat' first
    | (refine codeW_cond rfl ?_; first | (refine condW_dec ?_ ?_ <;> intro _ <;> try (exfalso; omega)) | refine condW_not ?_ | (refine condW_bool ?_ ?_ <;> intro _ <;> try (exfalso; omega)))
    | (refine facW_intro ?_; intro _)
    | refine Or.inl ?_
    | ((conv => whnf); first | (refine condW_dec ?_ ?_ <;> intro _ <;> try (exfalso; omega)) | refine condW_not ?_ | (refine condW_bool ?_ ?_ <;> intro _ <;> try (exfalso; omega)) | (refine nbC_t (fun _ => ?_) ?_) | (refine nbC_f ?_ (fun _ => ?_)))
    | refine And.intro (by first | omega | (simp only [Int.toNat_natCast] at *; omega) | (simp only [Nat.reduceAdd, Int.cast_ofNat_Int, true_and, and_true]; omega)  | (simp only [cx, view, Nat.reduceAdd, Int.toNat_natCast]; omega) | kernel_rfl) ?_
    | refine RegW.run ?_
    | fail
  refine ⟨Nat × Nat, fun k => [(7, i64 k.1), (8, i64 k.2)], fun k => [], [2000], fun k => [], fun k => k.1 ≤ k.2 ∧ k.2 ≤ n ∧ bsr l x 0 n = bsr l x k.1 k.2, fun k => k.2 - k.1, ⟨(0, n), ⟨by omega, by omega, rfl⟩, ⟨[], ⟨by kernel_rfl, by kernel_rfl, by kernel_rfl, by kernel_rfl, by kernel_rfl, by kernel_rfl, by kernel_rfl⟩, (by repeat' first | exact trivial | exact rfl | kernel_rfl | exact Dle.of_eq rfl | exact MLe.of_eq rfl | exact Dle.i (by omega) | exact Dle.i (by simp only [Int.toNat_natCast] at *; omega) | exact Dle.nil | exact Dle.rc Dle.nil | exact Option.some_ne_none _ | exact Or.inl rfl | exact Or.inr trivial | omega | (simp only [Int.toNat_natCast] at *; omega) | (intro _ _ _ _; exact Dle.of_eq rfl) | refine And.intro ?_ ?_)⟩⟩, fun k hk => ?_⟩
  obtain ⟨h1, h2, h3⟩ := hk
  have hh : (IntKind.u64.wrap ((k.1 : Int) + (k.2 : Int))).fdiv (2 ^ min (Int.toNat 1) IntKind.u64.bits) = (((k.1 + k.2) / 2 : Nat) : Int) := by
    have h4 : IntKind.u64.wrap ((k.1 : Int) + (k.2 : Int)) = (k.1 : Int) + (k.2 : Int) := by
      simp only [IntKind.wrap, IntKind.bits, IntKind.signed]
      simp
      omega
    rw [h4, show (2 : Int) ^ min (Int.toNat 1) IntKind.u64.bits = 2 by decide, Int.fdiv_eq_ediv_of_nonneg _ (by omega)]
    omega
  have h5 : IntKind.i64.wrap ((((k.1 + k.2) / 2 : Nat) : Int)) = (((k.1 + k.2) / 2 : Nat) : Int) := by
    simp only [IntKind.wrap, IntKind.bits, IntKind.signed]
    simp
    omega
  by_cases hlt : k.1 < k.2
  · repeat' first
      | (refine codeW_cond rfl ?_; first | (refine condW_dec ?_ ?_ <;> intro _ <;> try (exfalso; omega)) | refine condW_not ?_ | (refine condW_bool ?_ ?_ <;> intro _ <;> try (exfalso; omega)))
      | (refine facW_intro ?_; intro _)
      | refine Or.inl ?_
      | ((conv => whnf); first | (refine condW_dec ?_ ?_ <;> intro _ <;> try (exfalso; omega)) | refine condW_not ?_ | (refine condW_bool ?_ ?_ <;> intro _ <;> try (exfalso; omega)) | (refine nbC_t (fun _ => ?_) ?_) | (refine nbC_f ?_ (fun _ => ?_)))
      | refine And.intro (by first | omega | (simp only [Int.toNat_natCast] at *; omega) | (simp only [Nat.reduceAdd, Int.cast_ofNat_Int, true_and, and_true]; omega)  | (simp only [cx, view, Nat.reduceAdd, Int.toNat_natCast]; omega) | kernel_rfl) ?_
      | refine RegW.run ?_
      | fail
    (conv => whnf)
    rw [hh, h5]
    repeat' first
      | (refine codeW_cond rfl ?_; first | (refine condW_dec ?_ ?_ <;> intro _ <;> try (exfalso; omega)) | refine condW_not ?_ | (refine condW_bool ?_ ?_ <;> intro _ <;> try (exfalso; omega)))
      | (refine facW_intro ?_; intro _)
      | refine Or.inl ?_
      | ((conv => whnf); first | (refine condW_dec ?_ ?_ <;> intro _ <;> try (exfalso; omega)) | refine condW_not ?_ | (refine condW_bool ?_ ?_ <;> intro _ <;> try (exfalso; omega)) | (refine nbC_t (fun _ => ?_) ?_) | (refine nbC_f ?_ (fun _ => ?_)))
      | refine And.intro (by first | omega | (simp only [Int.toNat_natCast] at *; omega) | (simp only [Nat.reduceAdd, Int.cast_ofNat_Int, true_and, and_true]; omega)  | (simp only [cx, view, Nat.reduceAdd, Int.toNat_natCast]; omega) | kernel_rfl) ?_
      | refine RegW.run ?_
      | refine ⟨_, less_sp E _ x, ?_⟩
      | fail
    · rename_i h4
      simp only [Nat.zero_add, Int.toNat_natCast] at h4
      exact ⟨((k.1 + k.2) / 2 + 1, k.2), ⟨by dsimp only; omega, h2, by rw [h3, bsr_lt (by omega) h4]⟩, ⟨[], ⟨by kernel_rfl, by kernel_rfl, by kernel_rfl, by kernel_rfl, by kernel_rfl, by kernel_rfl, by kernel_rfl⟩, (by repeat' first | exact trivial | exact rfl | kernel_rfl | exact Dle.of_eq rfl | exact MLe.of_eq rfl | exact Dle.i (by omega) | exact Dle.i (by simp only [Int.toNat_natCast] at *; omega) | exact Dle.nil | exact Dle.rc Dle.nil | exact Option.some_ne_none _ | exact Or.inl rfl | exact Or.inr trivial | omega | (simp only [Int.toNat_natCast] at *; omega) | (intro _ _ _ _; exact Dle.of_eq rfl) | refine And.intro ?_ ?_)⟩, by first | omega | (dsimp only; omega)⟩
    · rename_i h4
      simp only [Nat.zero_add, Int.toNat_natCast] at h4
      exact ⟨(k.1, (k.1 + k.2) / 2), ⟨by dsimp only; omega, by dsimp only; omega, by rw [h3, bsr_ge (by omega) h4]⟩, ⟨[], ⟨by kernel_rfl, by kernel_rfl, by kernel_rfl, by kernel_rfl, by kernel_rfl, by kernel_rfl, by kernel_rfl⟩, (by repeat' first | exact trivial | exact rfl | kernel_rfl | exact Dle.of_eq rfl | exact MLe.of_eq rfl | exact Dle.i (by omega) | exact Dle.i (by simp only [Int.toNat_natCast] at *; omega) | exact Dle.nil | exact Dle.rc Dle.nil | exact Option.some_ne_none _ | exact Or.inl rfl | exact Or.inr trivial | omega | (simp only [Int.toNat_natCast] at *; omega) | (intro _ _ _ _; exact Dle.of_eq rfl) | refine And.intro ?_ ?_)⟩, by first | omega | (dsimp only; omega)⟩
  · have he : bsr l x 0 n = k.1 := by rw [h3, bsr_end hlt]
    have g1 := isNaN2_sp E (l.getD k.1 ⟨#[]⟩)
    have g2 := isNaN2_sp E x
    rw [he]
    repeat' first
      | (refine codeW_cond rfl ?_; first | (refine condW_dec ?_ ?_ <;> intro _ <;> try (exfalso; omega)) | refine condW_not ?_ | (refine condW_bool ?_ ?_ <;> intro _ <;> try (exfalso; omega)))
      | (refine facW_intro ?_; intro _)
      | refine Or.inl ?_
      | ((conv => whnf); first | (refine condW_dec ?_ ?_ <;> intro _ <;> try (exfalso; omega)) | refine condW_not ?_ | (refine condW_bool ?_ ?_ <;> intro _ <;> try (exfalso; omega)) | (refine nbC_t (fun _ => ?_) ?_) | (refine nbC_f ?_ (fun _ => ?_)))
      | refine And.intro (by first | omega | (simp only [Int.toNat_natCast] at *; omega) | (simp only [Nat.reduceAdd, Int.cast_ofNat_Int, true_and, and_true]; omega)  | (simp only [cx, view, Nat.reduceAdd, Int.toNat_natCast]; omega) | kernel_rfl) ?_
      | refine RegW.run ?_
      | refine ⟨_, isNaN2_sp E _, ?_⟩
      | refine ⟨_, g2, ?_⟩
      | fail
    all_goals first
      | (rename_i q; (try simp only [Nat.zero_add, Int.toNat_natCast] at q); have hq : (decide (k.1 < n) && decide (l.getD k.1 ⟨#[]⟩ = x)) = true := (by rw [decide_eq_true (show k.1 < n by omega), decide_eq_true q]; rfl); exact ⟨[(2000, .row 9 n (rowK l))], [], rfl, ⟨[], ⟨by kernel_rfl, by kernel_rfl, by kernel_rfl, by kernel_rfl, by kernel_rfl, by kernel_rfl, by kernel_rfl⟩, ⟨⟨rfl, Dle.refl _ _⟩, ⟨rfl, Dle.bo (by rw [hq])⟩, trivial⟩, (by repeat' first | exact trivial | exact rfl | kernel_rfl | exact Dle.of_eq rfl | exact MLe.of_eq rfl | exact Dle.i (by omega) | exact Dle.i (by simp only [Int.toNat_natCast] at *; omega) | exact Dle.nil | exact Dle.rc Dle.nil | exact Option.some_ne_none _ | exact Or.inl rfl | exact Or.inr trivial | omega | (simp only [Int.toNat_natCast] at *; omega) | (intro _ _ _ _; exact Dle.of_eq rfl) | refine And.intro ?_ ?_), trivial, trivial⟩, rfl⟩)
      | (rename_i q; (try simp only [Nat.zero_add, Int.toNat_natCast] at q); have hq : (decide (k.1 < n) && decide (l.getD k.1 ⟨#[]⟩ = x)) = false := (by rw [decide_eq_true (show k.1 < n by omega), decide_eq_false q]; rfl); exact ⟨[(2000, .row 9 n (rowK l))], [], rfl, ⟨[], ⟨by kernel_rfl, by kernel_rfl, by kernel_rfl, by kernel_rfl, by kernel_rfl, by kernel_rfl, by kernel_rfl⟩, ⟨⟨rfl, Dle.refl _ _⟩, ⟨rfl, Dle.bo (by rw [hq])⟩, trivial⟩, (by repeat' first | exact trivial | exact rfl | kernel_rfl | exact Dle.of_eq rfl | exact MLe.of_eq rfl | exact Dle.i (by omega) | exact Dle.i (by simp only [Int.toNat_natCast] at *; omega) | exact Dle.nil | exact Dle.rc Dle.nil | exact Option.some_ne_none _ | exact Or.inl rfl | exact Or.inr trivial | omega | (simp only [Int.toNat_natCast] at *; omega) | (intro _ _ _ _; exact Dle.of_eq rfl) | refine And.intro ?_ ?_), trivial, trivial⟩, rfl⟩)
      | (rename_i q; (try simp only [Nat.zero_add, Int.toNat_natCast] at q); have hq : (decide (k.1 < n) && decide (l.getD k.1 ⟨#[]⟩ = x)) = false := (by rw [decide_eq_false (show ¬ k.1 < n by omega)]; rfl); exact ⟨[(2000, .row 9 n (rowK l))], [], rfl, ⟨[], ⟨by kernel_rfl, by kernel_rfl, by kernel_rfl, by kernel_rfl, by kernel_rfl, by kernel_rfl, by kernel_rfl⟩, ⟨⟨rfl, Dle.refl _ _⟩, ⟨rfl, Dle.bo (by rw [hq])⟩, trivial⟩, (by repeat' first | exact trivial | exact rfl | kernel_rfl | exact Dle.of_eq rfl | exact MLe.of_eq rfl | exact Dle.i (by omega) | exact Dle.i (by simp only [Int.toNat_natCast] at *; omega) | exact Dle.nil | exact Dle.rc Dle.nil | exact Option.some_ne_none _ | exact Or.inl rfl | exact Or.inr trivial | omega | (simp only [Int.toNat_natCast] at *; omega) | (intro _ _ _ _; exact Dle.of_eq rfl) | refine And.intro ?_ ?_), trivial, trivial⟩, rfl⟩)
      | trace_state
theorem bs_sp (L : Nat) (l : List ByteArray) (x : ByteArray) (n : Nat) (hn : n ≤ 1000000000000) : SpH (cx Tryz.prog mixed tyT_ok E) 45 [.own L 1 0 n, dS x] [(L, .row 9 n (rowK l))] (.tup [i64 (bsr l x 0 n), dB (decide (bsr l x 0 n < n) && decide (l.getD (bsr l x 0 n) ⟨#[]⟩ = x))]) [(L, .row 9 n (rowK l))] := by
  have h := (bs0_sp E l x n hn).swap 2000 L
  simpa only [D.renL, D.ren, renH, Ob.ren, swp_l] using h
/-- Insert under other labels, all apart from each other and from 2000 to 2002. -/
theorem insV_l (a b c : Nat) (hab : a ≠ b) (hac : a ≠ c) (hbc : b ≠ c) (ha : a < 2000) (hb : b < 2000) (hc : c < 2000) (n i : Nat) (hi : i ≤ n) (hbig : (n + 1) * 88 ≤ 140737488355328) (F V : Nat → Nat → DD) : SpH (cx Tryz.prog mixed tyT_ok E) 47 [.own a 6 0 n, i64 i, .own b 6 0 1] [(a, .row 25 n F), (b, .row 25 1 V)] (.own c 6 0 (n + 1)) [(c, .row 25 (n + 1) (fun k j => if k < i then F k j else if k = i then V 0 j else F (k - 1) j))] := by
  have h := (((insV_at E n i hi hbig F V).swap 2000 a).swap 2001 b).swap 2002 c
  simpa (disch := omega) only [D.renL, D.ren, renH, Ob.ren, swp_l, swp_o] using h
theorem insS_l (a b c : Nat) (hab : a ≠ b) (hac : a ≠ c) (hbc : b ≠ c) (ha : a < 2000) (hb : b < 2000) (hc : c < 2000) (n i : Nat) (hi : i ≤ n) (hbig : (n + 1) * 16 ≤ 140737488355328) (F V : Nat → Nat → DD) : SpH (cx Tryz.prog mixed tyT_ok E) 46 [.own a 1 0 n, i64 i, .own b 1 0 1] [(a, .row 9 n F), (b, .row 9 1 V)] (.own c 1 0 (n + 1)) [(c, .row 9 (n + 1) (fun k j => if k < i then F k j else if k = i then V 0 j else F (k - 1) j))] := by
  have h := (((insS_at E n i hi hbig F V).swap 2000 a).swap 2001 b).swap 2002 c
  simpa (disch := omega) only [D.renL, D.ren, renH, Ob.ren, swp_l, swp_o] using h
end
end ins
end Go.Proofs.YtjbgafbijamckaaGreatDoor
