/-
  Strings among strings; ends of strings. Sources of a tree: strings.LastIndexByte, keys, languages.
-/
import Derived.Test.YtdpbgpkjlbdbfaaGreatDoorPa0
import Derived.Test.YtdpbgpkjlbdbfaaGreatDoorJ0
import Derived.Test.YtdpbgpkjlbdbfaaGreatDoorRs2
namespace Go.Proofs.YtdpbgpkjlbdbfaaGreatDoor
open Go.RowKit
set_option linter.unusedVariables false
set_option linter.unusedSimpArgs false
namespace ts
/-- Whether a string is among the first k ones. -/
def inK (ps : List ByteArray) (k : Nat) (s : ByteArray) : Bool := !allN k (fun i => decide (¬ ps.getD i ⟨#[]⟩ = s))
theorem first_no {p : Nat → Bool} : ∀ {k : Nat}, allN k p = false → ∃ m, m < k ∧ p m = false ∧ ∀ i, i < m → p i = true
  | 0, h => by simp [allN] at h
  | k + 1, h => by
    by_cases h1 : allN k p = true
    · refine ⟨k, by omega, ?_, fun i hi => allN_iff.1 h1 i hi⟩
      by_cases h2 : p k = true
      · rw [allN_succ h1 h2] at h
        cases h
      · simpa using h2
    · obtain ⟨m, h2, h3, h4⟩ := first_no (by simpa using h1 : allN k p = false)
      exact ⟨m, by omega, h3, h4⟩
def sufS (s p : ByteArray) : Bool := decide (p.size ≤ s.size) && decide (s.extract (s.size - p.size) s.size = p)
theorem toL_ext {a b : ByteArray} (h : a.data.toList = b.data.toList) : a = b := by
  apply ByteArray.ext
  apply Array.ext'
  exact h
theorem ext_L (s : ByteArray) (a b : Nat) : (s.extract a b).data.toList = (s.data.toList.take b).drop a := by
  simp [ByteArray.data_extract, List.drop_take]
theorem app_L (a b : ByteArray) : (a ++ b).data.toList = a.data.toList ++ b.data.toList := by simp [ByteArray.data_append]
section
variable (E : Env)
set_option maxRecDepth 100000
theorem contS_sp (ps : List ByteArray) (k : Nat) (s : ByteArray) (hk : k ≤ 1000000000) : Sp (cx Tryz.prog mixed tyT_ok E) 95 [.sl 1 16 k (fun i _ => dS (ps.getD i ⟨#[]⟩)), dS s] (dB (inK ps k s)) := by
  have key : ∃ r : Int, Sp (cx Tryz.prog mixed tyT_ok E) 114 [.sl 1 16 k (fun i _ => dS (ps.getD i ⟨#[]⟩)), dS s] (i64 r) ∧ (0 ≤ r ↔ inK ps k s = true) := by
    by_cases hm : allN k (fun i => decide (¬ ps.getD i ⟨#[]⟩ = s)) = true
    · have hne : ∀ j, j < k → ¬ ps.getD j ⟨#[]⟩ = s := fun j hj => by simpa using allN_iff.1 hm j hj
      refine ⟨-1, ?_, ⟨fun h => by omega, fun h => by unfold inK at h; rw [hm] at h; cases h⟩⟩
      refine Sp.body Tryz.func114 (by kernel_rfl) rfl (by kernel_rfl) (by kernel_rfl) (by kernel_rfl) ?_
      repeat' first
        | (refine codeW_cond rfl ?_; first | (refine condW_dec ?_ ?_ <;> intro _ <;> try (exfalso; omega)) | refine condW_not ?_ | (refine condW_bool ?_ ?_ <;> intro _ <;> try (exfalso; omega)))
        | (refine facW_intro ?_; intro _)
        | refine Or.inl ?_
        | ((conv => whnf); first | (refine condW_dec ?_ ?_ <;> intro _ <;> try (exfalso; omega)) | refine condW_not ?_ | (refine condW_bool ?_ ?_ <;> intro _ <;> try (exfalso; omega)) | (refine nbC_t (fun _ => ?_) ?_) | (refine nbC_f ?_ (fun _ => ?_)))
        | refine And.intro (by first | omega | (simp only [Int.toNat_natCast] at *; omega) | (simp only [Nat.reduceAdd, Int.cast_ofNat_Int, true_and, and_true]; omega) | kernel_rfl) ?_
        | refine RegW.run ?_
        | fail
      refine ⟨Nat, fun j => [(8, i64 j)], fun j => [], [], fun j => [], fun j => j ≤ k, fun j => k - j, ⟨0, by omega, ⟨[], ⟨by kernel_rfl, by kernel_rfl, by kernel_rfl, by kernel_rfl, by kernel_rfl, by kernel_rfl, by kernel_rfl⟩, (by repeat' first | exact trivial | exact rfl | kernel_rfl | exact Dle.of_eq rfl | exact MLe.of_eq rfl | exact Dle.i (by omega) | exact Dle.i (by simp only [Int.toNat_natCast] at *; omega) | exact Dle.nil | exact Dle.rc Dle.nil | exact Option.some_ne_none _ | exact Or.inl rfl | exact Or.inr trivial | omega | (simp only [Int.toNat_natCast] at *; omega) | (intro _ _ _ _; exact Dle.of_eq rfl) | refine And.intro ?_ ?_)⟩⟩, fun j hj => ?_⟩
      have hj : j ≤ k := hj
      by_cases hlt : j < k
      · have hne := hne j hlt
        repeat' first
          | (refine codeW_cond rfl ?_; first | (refine condW_dec ?_ ?_ <;> intro _ <;> try (exfalso; omega)) | refine condW_not ?_ | (refine condW_bool ?_ ?_ <;> intro _ <;> try (exfalso; omega)))
          | (refine facW_intro ?_; intro _)
          | refine Or.inl ?_
          | ((conv => whnf); first | (refine condW_dec ?_ ?_ <;> intro _ <;> try (exfalso; omega)) | refine condW_not ?_ | (refine condW_bool ?_ ?_ <;> intro _ <;> try (exfalso; omega)) | (refine nbC_t (fun _ => ?_) ?_) | (refine nbC_f ?_ (fun _ => ?_)))
          | refine And.intro (by first | omega | (simp only [Int.toNat_natCast] at *; omega) | (simp only [Nat.reduceAdd, Int.cast_ofNat_Int, true_and, and_true]; omega) | kernel_rfl) ?_
          | refine RegW.run ?_
          | fail
        all_goals first
          | exact ⟨j + 1, by omega, ⟨[], ⟨by kernel_rfl, by kernel_rfl, by kernel_rfl, by kernel_rfl, by kernel_rfl, by kernel_rfl, by kernel_rfl⟩, (by repeat' first | exact trivial | exact rfl | kernel_rfl | exact Dle.of_eq rfl | exact MLe.of_eq rfl | exact Dle.i (by omega) | exact Dle.i (by simp only [Int.toNat_natCast] at *; omega) | exact Dle.nil | exact Dle.rc Dle.nil | exact Option.some_ne_none _ | exact Or.inl rfl | exact Or.inr trivial | omega | (simp only [Int.toNat_natCast] at *; omega) | (intro _ _ _ _; exact Dle.of_eq rfl) | refine And.intro ?_ ?_)⟩, by first | omega | (dsimp only; omega)⟩
          | (exfalso; rename_i h; exact hne h)
          | (exfalso; rename_i h; exact hne h.symm)
          | trace_state
      · repeat' first
          | (refine codeW_cond rfl ?_; first | (refine condW_dec ?_ ?_ <;> intro _ <;> try (exfalso; omega)) | refine condW_not ?_ | (refine condW_bool ?_ ?_ <;> intro _ <;> try (exfalso; omega)))
          | (refine facW_intro ?_; intro _)
          | refine Or.inl ?_
          | ((conv => whnf); first | (refine condW_dec ?_ ?_ <;> intro _ <;> try (exfalso; omega)) | refine condW_not ?_ | (refine condW_bool ?_ ?_ <;> intro _ <;> try (exfalso; omega)) | (refine nbC_t (fun _ => ?_) ?_) | (refine nbC_f ?_ (fun _ => ?_)))
          | refine And.intro (by first | omega | (simp only [Int.toNat_natCast] at *; omega) | (simp only [Nat.reduceAdd, Int.cast_ofNat_Int, true_and, and_true]; omega) | kernel_rfl) ?_
          | refine RegW.run ?_
          | fail
        all_goals first
          | exact Dle.refl _ _
          | trace_state
    · have hm : allN k (fun i => decide (¬ ps.getD i ⟨#[]⟩ = s)) = false := by simpa using hm
      obtain ⟨m, hm1, hm2, hm3⟩ := first_no hm
      have hm2 : ps.getD m ⟨#[]⟩ = s := by simpa using hm2
      have hm3 : ∀ j, j < m → ¬ ps.getD j ⟨#[]⟩ = s := fun j hj => by simpa using hm3 j hj
      refine ⟨m, ?_, ⟨fun _ => by unfold inK; rw [hm]; rfl, fun _ => by omega⟩⟩
      refine Sp.body Tryz.func114 (by kernel_rfl) rfl (by kernel_rfl) (by kernel_rfl) (by kernel_rfl) ?_
      repeat' first
        | (refine codeW_cond rfl ?_; first | (refine condW_dec ?_ ?_ <;> intro _ <;> try (exfalso; omega)) | refine condW_not ?_ | (refine condW_bool ?_ ?_ <;> intro _ <;> try (exfalso; omega)))
        | (refine facW_intro ?_; intro _)
        | refine Or.inl ?_
        | ((conv => whnf); first | (refine condW_dec ?_ ?_ <;> intro _ <;> try (exfalso; omega)) | refine condW_not ?_ | (refine condW_bool ?_ ?_ <;> intro _ <;> try (exfalso; omega)) | (refine nbC_t (fun _ => ?_) ?_) | (refine nbC_f ?_ (fun _ => ?_)))
        | refine And.intro (by first | omega | (simp only [Int.toNat_natCast] at *; omega) | (simp only [Nat.reduceAdd, Int.cast_ofNat_Int, true_and, and_true]; omega) | kernel_rfl) ?_
        | refine RegW.run ?_
        | fail
      refine ⟨Nat, fun j => [(8, i64 j)], fun j => [], [], fun j => [], fun j => j ≤ m, fun j => k - j, ⟨0, by omega, ⟨[], ⟨by kernel_rfl, by kernel_rfl, by kernel_rfl, by kernel_rfl, by kernel_rfl, by kernel_rfl, by kernel_rfl⟩, (by repeat' first | exact trivial | exact rfl | kernel_rfl | exact Dle.of_eq rfl | exact MLe.of_eq rfl | exact Dle.i (by omega) | exact Dle.i (by simp only [Int.toNat_natCast] at *; omega) | exact Dle.nil | exact Dle.rc Dle.nil | exact Option.some_ne_none _ | exact Or.inl rfl | exact Or.inr trivial | omega | (simp only [Int.toNat_natCast] at *; omega) | (intro _ _ _ _; exact Dle.of_eq rfl) | refine And.intro ?_ ?_)⟩⟩, fun j hj => ?_⟩
      have hj : j ≤ m := hj
      by_cases hjm : j = m
      · subst hjm
        repeat' first
          | (refine codeW_cond rfl ?_; first | (refine condW_dec ?_ ?_ <;> intro _ <;> try (exfalso; omega)) | refine condW_not ?_ | (refine condW_bool ?_ ?_ <;> intro _ <;> try (exfalso; omega)))
          | (refine facW_intro ?_; intro _)
          | refine Or.inl ?_
          | ((conv => whnf); first | (refine condW_dec ?_ ?_ <;> intro _ <;> try (exfalso; omega)) | refine condW_not ?_ | (refine condW_bool ?_ ?_ <;> intro _ <;> try (exfalso; omega)) | (refine nbC_t (fun _ => ?_) ?_) | (refine nbC_f ?_ (fun _ => ?_)))
          | refine And.intro (by first | omega | (simp only [Int.toNat_natCast] at *; omega) | (simp only [Nat.reduceAdd, Int.cast_ofNat_Int, true_and, and_true]; omega) | kernel_rfl) ?_
          | refine RegW.run ?_
          | fail
        all_goals first
          | exact Dle.refl _ _
          | (exfalso; rename_i h; exact h hm2.symm)
          | (exfalso; rename_i h; exact h hm2)
          | trace_state
      · have hne := hm3 j (by omega)
        repeat' first
          | (refine codeW_cond rfl ?_; first | (refine condW_dec ?_ ?_ <;> intro _ <;> try (exfalso; omega)) | refine condW_not ?_ | (refine condW_bool ?_ ?_ <;> intro _ <;> try (exfalso; omega)))
          | (refine facW_intro ?_; intro _)
          | refine Or.inl ?_
          | ((conv => whnf); first | (refine condW_dec ?_ ?_ <;> intro _ <;> try (exfalso; omega)) | refine condW_not ?_ | (refine condW_bool ?_ ?_ <;> intro _ <;> try (exfalso; omega)) | (refine nbC_t (fun _ => ?_) ?_) | (refine nbC_f ?_ (fun _ => ?_)))
          | refine And.intro (by first | omega | (simp only [Int.toNat_natCast] at *; omega) | (simp only [Nat.reduceAdd, Int.cast_ofNat_Int, true_and, and_true]; omega) | kernel_rfl) ?_
          | refine RegW.run ?_
          | fail
        all_goals first
          | exact ⟨j + 1, by omega, ⟨[], ⟨by kernel_rfl, by kernel_rfl, by kernel_rfl, by kernel_rfl, by kernel_rfl, by kernel_rfl, by kernel_rfl⟩, (by repeat' first | exact trivial | exact rfl | kernel_rfl | exact Dle.of_eq rfl | exact MLe.of_eq rfl | exact Dle.i (by omega) | exact Dle.i (by simp only [Int.toNat_natCast] at *; omega) | exact Dle.nil | exact Dle.rc Dle.nil | exact Option.some_ne_none _ | exact Or.inl rfl | exact Or.inr trivial | omega | (simp only [Int.toNat_natCast] at *; omega) | (intro _ _ _ _; exact Dle.of_eq rfl) | refine And.intro ?_ ?_)⟩, by first | omega | (dsimp only; omega)⟩
          | (exfalso; rename_i h; exact hne h)
          | (exfalso; rename_i h; exact hne h.symm)
          | trace_state
  obtain ⟨r, h1, h2⟩ := key
  refine Sp.body Tryz.func95 (by kernel_rfl) rfl (by kernel_rfl) (by kernel_rfl) (by kernel_rfl) ?_
  repeat' first
    | (refine codeW_cond rfl ?_; first | (refine condW_dec ?_ ?_ <;> intro _ <;> try (exfalso; omega)) | refine condW_not ?_ | (refine condW_bool ?_ ?_ <;> intro _ <;> try (exfalso; omega)))
    | (refine facW_intro ?_; intro _)
    | refine Or.inl ?_
    | ((conv => whnf); first | (refine condW_dec ?_ ?_ <;> intro _ <;> try (exfalso; omega)) | refine condW_not ?_ | (refine condW_bool ?_ ?_ <;> intro _ <;> try (exfalso; omega)) | (refine nbC_t (fun _ => ?_) ?_) | (refine nbC_f ?_ (fun _ => ?_)))
    | refine And.intro (by first | omega | (simp only [Int.toNat_natCast] at *; omega) | (simp only [Nat.reduceAdd, Int.cast_ofNat_Int, true_and, and_true]; omega) | kernel_rfl) ?_
    | refine RegW.run ?_
    | refine ⟨_, h1, ?_⟩
    | fail
  all_goals first
    | exact Dle.bo (by rw [Bool.eq_iff_iff, decide_eq_true_eq]; exact h2)
    | trace_state
theorem innerSuf_sp (s p : ByteArray) : Sp (cx Tryz.prog mixed tyT_ok E) 221 [dS s, dS p] (dB (sufS s p)) := by
  have e1 : p.size ≤ s.size → ((s.size : Int) - (p.size : Int)).toNat = s.size - p.size := fun h => by omega
  refine Sp.body Tryz.func221 (by kernel_rfl) rfl (by kernel_rfl) (by kernel_rfl) (by kernel_rfl) ?_
  repeat' first
    | (refine codeW_cond rfl ?_; first | (refine condW_dec ?_ ?_ <;> intro _ <;> try (exfalso; omega)) | refine condW_not ?_ | (refine condW_bool ?_ ?_ <;> intro _ <;> try (exfalso; omega)))
    | (refine facW_intro ?_; intro _)
    | refine Or.inl ?_
    | ((conv => whnf); first | (refine condW_dec ?_ ?_ <;> intro _) | refine condW_not ?_ | (refine condW_bool ?_ ?_ <;> intro _) | (refine nbC_t (fun _ => ?_) ?_) | (refine nbC_f ?_ (fun _ => ?_)))
    | refine And.intro (by first | omega | (simp only [Int.toNat_natCast] at *; omega) | (simp only [Nat.reduceAdd, Int.cast_ofNat_Int, true_and, and_true]; omega) | kernel_rfl) ?_
    | refine RegW.run ?_
    | fail
  all_goals first
    | exact Dle.bo (by unfold sufS; grind)
    | trace_state
end
end ts
end Go.Proofs.YtdpbgpkjlbdbfaaGreatDoor
namespace Go.Proofs.YtdpbgpkjlbdbfaaGreatDoor
open Go.RowKit
set_option linter.unusedVariables false
set_option linter.unusedSimpArgs false
namespace ts
open rs
/-- The last place of a byte below k; -1: none. -/
def lastB (s : ByteArray) (c : UInt8) : Nat → Int
  | 0 => -1
  | k + 1 => if (bAt s k).toNat = c.toNat then (k : Int) else lastB s c k
theorem lastB_lt (s : ByteArray) (c : UInt8) : ∀ k, -1 ≤ lastB s c k ∧ lastB s c k < k
  | 0 => by unfold lastB; omega
  | k + 1 => by
    have := lastB_lt s c k
    unfold lastB
    split <;> omega
theorem lastB_s (s : ByteArray) (c : UInt8) (k : Nat) : lastB s c (k + 1) = if (bAt s k).toNat = c.toNat then (k : Int) else lastB s c k := rfl
theorem ext0 (s : ByteArray) {n : Nat} (h : n = 0) : (dS s : DD) = dS (s.extract n s.size) := by
  subst h
  exact congrArg dS (by simp)
section
variable (E : Env)
set_option maxRecDepth 100000
theorem lastIdxB_sp (s : ByteArray) (c : UInt8) (hs : s.size ≤ maxLen) : Sp (cx Tryz.prog mixed tyT_ok E) 241 [dS s, .v (.int .u8 c.toNat)] (i64 (lastB s c s.size)) := by
  obtain ⟨r, hr⟩ : ∃ r, r = lastB s c s.size := ⟨_, rfl⟩
  rw [← hr]
  refine Sp.body Tryz.func241 (by kernel_rfl) rfl (by kernel_rfl) (by kernel_rfl) (by kernel_rfl) ?_
  repeat' first
    | (refine codeW_cond rfl ?_; first | (refine condW_dec ?_ ?_ <;> intro _ <;> try (exfalso; omega)) | refine condW_not ?_ | (refine condW_bool ?_ ?_ <;> intro _ <;> try (exfalso; omega)))
    | (refine facW_intro ?_; intro _)
    | refine Or.inl ?_
    | ((conv => whnf); first | (refine condW_dec ?_ ?_ <;> intro _ <;> try (exfalso; omega)) | refine condW_not ?_ | (refine condW_bool ?_ ?_ <;> intro _ <;> try (exfalso; omega)) | (refine nbC_t (fun _ => ?_) ?_) | (refine nbC_f ?_ (fun _ => ?_)))
    | refine And.intro (by first | omega | (simp only [Int.toNat_natCast] at *; omega) | (simp only [Nat.reduceAdd, Int.cast_ofNat_Int, true_and, and_true]; omega) | kernel_rfl) ?_
    | refine RegW.run ?_
    | fail
  refine ⟨Nat, fun k => [(5, i64 ((k : Int) - 1))], fun k => [], [], fun k => [], fun k => k ≤ s.size ∧ lastB s c k = r, fun k => k, ⟨s.size, ⟨by omega, hr.symm⟩, ⟨[], ⟨by kernel_rfl, by kernel_rfl, by kernel_rfl, by kernel_rfl, by kernel_rfl, by kernel_rfl, by kernel_rfl⟩, (by repeat' first | exact trivial | exact rfl | kernel_rfl | exact Dle.of_eq rfl | exact MLe.of_eq rfl | exact Dle.i (by omega) | exact Dle.i (by simp only [Int.toNat_natCast] at *; omega) | exact Dle.nil | exact Dle.rc Dle.nil | exact Option.some_ne_none _ | exact Or.inl rfl | exact Or.inr trivial | omega | (simp only [Int.toNat_natCast] at *; omega) | (intro _ _ _ _; exact Dle.of_eq rfl) | refine And.intro ?_ ?_)⟩⟩, fun k hk => ?_⟩
  obtain ⟨hk, hR⟩ := hk
  cases k with
  | zero =>
    repeat' first
      | (refine codeW_cond rfl ?_; first | (refine condW_dec ?_ ?_ <;> intro _ <;> try (exfalso; omega)) | refine condW_not ?_ | (refine condW_bool ?_ ?_ <;> intro _ <;> try (exfalso; omega)))
      | (refine facW_intro ?_; intro _)
      | refine Or.inl ?_
      | ((conv => whnf); first | (refine condW_dec ?_ ?_ <;> intro _ <;> try (exfalso; omega)) | refine condW_not ?_ | (refine condW_bool ?_ ?_ <;> intro _ <;> try (exfalso; omega)) | (refine nbC_t (fun _ => ?_) ?_) | (refine nbC_f ?_ (fun _ => ?_)))
      | refine And.intro (by first | omega | (simp only [Int.toNat_natCast] at *; omega) | (simp only [Nat.reduceAdd, Int.cast_ofNat_Int, true_and, and_true]; omega) | kernel_rfl) ?_
      | refine RegW.run ?_
      | fail
    all_goals first
      | (exfalso; omega)
      | exact Dle.i (by rw [← hR]; rfl)
      | trace_state
  | succ j =>
    have hj : ((((j + 1 : Nat) : Int) - 1)).toNat = j := by omega
    have hb : (bAt s (((j + 1 : Nat) : Int) - 1).toNat).toNat = (bAt s j).toNat := by rw [hj]
    rw [lastB_s] at hR
    repeat' first
      | (refine codeW_cond rfl ?_; first | (refine condW_dec ?_ ?_ <;> intro _ <;> try (exfalso; omega)) | refine condW_not ?_ | (refine condW_bool ?_ ?_ <;> intro _ <;> try (exfalso; omega)))
      | (refine facW_intro ?_; intro _)
      | refine Or.inl ?_
      | ((conv => whnf); first | (refine condW_dec ?_ ?_ <;> intro _ <;> try (exfalso; omega)) | refine condW_not ?_ | (refine condW_bool ?_ ?_ <;> intro _ <;> try (exfalso; omega)) | (refine nbC_t (fun _ => ?_) ?_) | (refine nbC_f ?_ (fun _ => ?_)))
      | refine And.intro (by first | omega | (simp only [Int.toNat_natCast] at *; omega) | (simp only [Nat.reduceAdd, Int.cast_ofNat_Int, true_and, and_true]; omega) | kernel_rfl) ?_
      | refine RegW.run ?_
      | fail
    all_goals first
      | (exfalso; omega)
      | exact Dle.i (by rw [← hR, if_pos (by omega)]; omega)
      | exact ⟨j, ⟨by omega, (by rw [← hR, if_neg (by omega)])⟩, ⟨[], ⟨by kernel_rfl, by kernel_rfl, by kernel_rfl, by kernel_rfl, by kernel_rfl, by kernel_rfl, by kernel_rfl⟩, (by repeat' first | exact trivial | exact rfl | kernel_rfl | exact Dle.of_eq rfl | exact MLe.of_eq rfl | exact Dle.i (by omega) | exact Dle.i (by simp only [Int.toNat_natCast] at *; omega) | exact Dle.nil | exact Dle.rc Dle.nil | exact Option.some_ne_none _ | exact Or.inl rfl | exact Or.inr trivial | omega | (simp only [Int.toNat_natCast] at *; omega) | (intro _ _ _ _; exact Dle.of_eq rfl) | refine And.intro ?_ ?_)⟩, by first | omega | (dsimp only; omega)⟩
      | trace_state
theorem lastIdx_sp (s : ByteArray) (c : UInt8) (hs : s.size ≤ maxLen) : Sp (cx Tryz.prog mixed tyT_ok E) 188 [dS s, .v (.int .u8 c.toNat)] (i64 (lastB s c s.size)) := by
  have h1 := lastIdxB_sp E s c hs
  generalize lastB s c s.size = r at h1
  refine Sp.body Tryz.func188 (by kernel_rfl) rfl (by kernel_rfl) (by kernel_rfl) (by kernel_rfl) ?_
  repeat' first
    | (refine codeW_cond rfl ?_; first | (refine condW_dec ?_ ?_ <;> intro _ <;> try (exfalso; omega)) | refine condW_not ?_ | (refine condW_bool ?_ ?_ <;> intro _ <;> try (exfalso; omega)))
    | (refine facW_intro ?_; intro _)
    | refine Or.inl ?_
    | ((conv => whnf); first | (refine condW_dec ?_ ?_ <;> intro _ <;> try (exfalso; omega)) | refine condW_not ?_ | (refine condW_bool ?_ ?_ <;> intro _ <;> try (exfalso; omega)) | (refine nbC_t (fun _ => ?_) ?_) | (refine nbC_f ?_ (fun _ => ?_)))
    | refine And.intro (by first | omega | (simp only [Int.toNat_natCast] at *; omega) | (simp only [Nat.reduceAdd, Int.cast_ofNat_Int, true_and, and_true]; omega) | kernel_rfl) ?_
    | refine RegW.run ?_
    | refine ⟨_, h1, ?_⟩
    | fail
  all_goals exact Dle.refl _ _
/-- A path's directory, its last part. -/
def dirP (s : ByteArray) : ByteArray := if lastB s 47 s.size < 0 then ⟨#[]⟩ else s.extract 0 (lastB s 47 s.size).toNat
def lstP (s : ByteArray) : ByteArray := s.extract ((lastB s 47 s.size) + 1).toNat s.size
theorem cutLast_sp (s : ByteArray) (hs : s.size ≤ maxLen) : Sp (cx Tryz.prog mixed tyT_ok E) 178 [dS s] (.tup [dS (dirP s), dS (lstP s)]) := by
  have h1 := lastIdx_sp E s 47 hs
  have h2 := lastB_lt s 47 s.size
  have hs2 : s.size ≤ 9223372036854775807 := by unfold maxLen at hs; omega
  unfold dirP lstP
  generalize lastB s 47 s.size = r at h1 h2
  refine Sp.body Tryz.func178 (by kernel_rfl) rfl (by kernel_rfl) (by kernel_rfl) (by kernel_rfl) ?_
  repeat' first
    | (refine codeW_cond rfl ?_; first | (refine condW_dec ?_ ?_ <;> intro _ <;> try (exfalso; omega)) | refine condW_not ?_ | (refine condW_bool ?_ ?_ <;> intro _ <;> try (exfalso; omega)))
    | (refine facW_intro ?_; intro _)
    | refine Or.inl ?_
    | ((conv => whnf); first | (refine condW_dec ?_ ?_ <;> intro _ <;> try (exfalso; omega)) | refine condW_not ?_ | (refine condW_bool ?_ ?_ <;> intro _ <;> try (exfalso; omega)) | (refine nbC_t (fun _ => ?_) ?_) | (refine nbC_f ?_ (fun _ => ?_)))
    | refine And.intro (by first | omega | (simp only [Int.toNat_natCast] at *; omega) | (simp only [Nat.reduceAdd, Int.cast_ofNat_Int, true_and, and_true]; omega) | kernel_rfl) ?_
    | refine RegW.run ?_
    | refine ⟨_, h1, ?_⟩
    | fail
  · refine Dle.tup (X := (cx Tryz.prog mixed tyT_ok E)) ⟨Dle.of_eq (by rw [if_pos (by assumption)]), Dle.of_eq (ext0 s (by omega)), trivial⟩
  · exact Dle.tup (X := (cx Tryz.prog mixed tyT_ok E)) ⟨Dle.of_eq (by rw [if_neg (by assumption)]; rfl), Dle.refl _ _, trivial⟩
theorem upper_sp (s : ByteArray) (hs : s.size ≤ maxLen) : Sp (cx Tryz.prog mixed tyT_ok E) 185 [dS s] (dS (dirP s)) := by
  have h1 := lastIdx_sp E s 47 hs
  have h2 := lastB_lt s 47 s.size
  have hs2 : s.size ≤ 9223372036854775807 := by unfold maxLen at hs; omega
  unfold dirP
  generalize lastB s 47 s.size = r at h1 h2
  refine Sp.body Tryz.func185 (by kernel_rfl) rfl (by kernel_rfl) (by kernel_rfl) (by kernel_rfl) ?_
  repeat' first
    | (refine codeW_cond rfl ?_; first | (refine condW_dec ?_ ?_ <;> intro _ <;> try (exfalso; omega)) | refine condW_not ?_ | (refine condW_bool ?_ ?_ <;> intro _ <;> try (exfalso; omega)))
    | (refine facW_intro ?_; intro _)
    | refine Or.inl ?_
    | ((conv => whnf); first | (refine condW_dec ?_ ?_ <;> intro _ <;> try (exfalso; omega)) | refine condW_not ?_ | (refine condW_bool ?_ ?_ <;> intro _ <;> try (exfalso; omega)) | (refine nbC_t (fun _ => ?_) ?_) | (refine nbC_f ?_ (fun _ => ?_)))
    | refine And.intro (by first | omega | (simp only [Int.toNat_natCast] at *; omega) | (simp only [Nat.reduceAdd, Int.cast_ofNat_Int, true_and, and_true]; omega) | kernel_rfl) ?_
    | refine RegW.run ?_
    | refine ⟨_, h1, ?_⟩
    | fail
  all_goals first
    | (exfalso; omega)
    | exact Dle.of_eq (by rw [if_pos (by assumption)]; rfl)
    | exact Dle.of_eq (by rw [if_neg (by assumption)]; rfl)
    | exact Dle.refl _ _
    | exact Dle.tup (X := (cx Tryz.prog mixed tyT_ok E)) ⟨Dle.of_eq (by rw [if_pos (by assumption)]), Dle.of_eq (ext0 s (by omega)), trivial⟩
    | (refine Dle.tup (X := (cx Tryz.prog mixed tyT_ok E)) ⟨Dle.of_eq (by rw [if_neg (by assumption)]; rfl), Dle.refl _ _, trivial⟩; done)
    | trace_state
theorem lstPart_sp (s : ByteArray) (hs : s.size ≤ maxLen) : Sp (cx Tryz.prog mixed tyT_ok E) 186 [dS s] (dS (lstP s)) := by
  have h1 := lastIdx_sp E s 47 hs
  have h2 := lastB_lt s 47 s.size
  have hs2 : s.size ≤ 9223372036854775807 := by unfold maxLen at hs; omega
  unfold lstP
  generalize lastB s 47 s.size = r at h1 h2
  refine Sp.body Tryz.func186 (by kernel_rfl) rfl (by kernel_rfl) (by kernel_rfl) (by kernel_rfl) ?_
  repeat' first
    | (refine codeW_cond rfl ?_; first | (refine condW_dec ?_ ?_ <;> intro _ <;> try (exfalso; omega)) | refine condW_not ?_ | (refine condW_bool ?_ ?_ <;> intro _ <;> try (exfalso; omega)))
    | (refine facW_intro ?_; intro _)
    | refine Or.inl ?_
    | ((conv => whnf); first | (refine condW_dec ?_ ?_ <;> intro _ <;> try (exfalso; omega)) | refine condW_not ?_ | (refine condW_bool ?_ ?_ <;> intro _ <;> try (exfalso; omega)) | (refine nbC_t (fun _ => ?_) ?_) | (refine nbC_f ?_ (fun _ => ?_)))
    | refine And.intro (by first | omega | (simp only [Int.toNat_natCast] at *; omega) | (simp only [Nat.reduceAdd, Int.cast_ofNat_Int, true_and, and_true]; omega) | kernel_rfl) ?_
    | refine RegW.run ?_
    | refine ⟨_, h1, ?_⟩
    | fail
  all_goals first
    | (exfalso; omega)
    | exact Dle.of_eq (by rw [if_pos (by assumption)]; rfl)
    | exact Dle.of_eq (by rw [if_neg (by assumption)]; rfl)
    | exact Dle.refl _ _
    | exact Dle.tup (X := (cx Tryz.prog mixed tyT_ok E)) ⟨Dle.of_eq (by rw [if_pos (by assumption)]), Dle.of_eq (ext0 s (by omega)), trivial⟩
    | (refine Dle.tup (X := (cx Tryz.prog mixed tyT_ok E)) ⟨Dle.of_eq (by rw [if_neg (by assumption)]; rfl), Dle.refl _ _, trivial⟩; done)
    | trace_state
end
end ts
end Go.Proofs.YtdpbgpkjlbdbfaaGreatDoor
