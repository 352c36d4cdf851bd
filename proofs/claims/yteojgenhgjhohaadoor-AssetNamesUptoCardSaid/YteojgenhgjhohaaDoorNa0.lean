/-
  Names of assets: the last part, the kind, digits at a place.
-/
import Derived.Test.YteojgenhgjhohaaDoorPl0
import Derived.Test.YteojgenhgjhohaaDoorPa0
namespace Go.Proofs.YteojgenhgjhohaaDoor
open Go.RowKit
set_option linter.unusedVariables false
set_option linter.unusedSimpArgs false
namespace na
open pl
def lastB (s : ByteArray) (c : UInt8) : Nat → Int
  | 0 => -1
  | k + 1 => if (bAt s k).toNat = c.toNat then (k : Int) else lastB s c k
theorem lastB_lt (s : ByteArray) (c : UInt8) : ∀ k, -1 ≤ lastB s c k ∧ lastB s c k < k
  | 0 => by unfold lastB; omega
  | k + 1 => by
    have := lastB_lt s c k
    unfold lastB
    split <;> omega
theorem lastB_s (s : ByteArray) (c : UInt8) (k : Nat) : lastB s c (k + 1) = if (bAt s k).toNat = c.toNat then (k : Int) else lastB s c k := rfl
def cutK (s : ByteArray) : Nat := (lastB s 47 s.size + 1).toNat
def dirV (s : ByteArray) : ByteArray := s.extract 0 (cutK s)
def lstV (s : ByteArray) : ByteArray := s.extract (cutK s) s.size
theorem cutK_le (s : ByteArray) : cutK s ≤ s.size := by have := lastB_lt s 47 s.size; unfold cutK; omega
def kindS (t : ByteArray) : Int := if t = (⟨#[115, 116, 121, 108, 101]⟩ : ByteArray) then 1 else if t = (⟨#[115, 99, 114, 105, 112, 116]⟩ : ByteArray) then 2 else if t = (⟨#[105, 109, 97, 103, 101]⟩ : ByteArray) then 3 else 0
def kindN (s : ByteArray) : Int := if lastB s 46 s.size < 0 then 0 else kindS (s.extract (lastB s 46 s.size + 1).toNat s.size)
section
variable (E : Env)
set_option maxRecDepth 100000
theorem lastIdxB_sp (s : ByteArray) (c : UInt8) (hs : s.size ≤ maxLen) : Sp (cx Tryd.prog mixed tyT_ok E) 28 [dS s, .v (.int .u8 c.toNat)] (i64 (lastB s c s.size)) := by
  obtain ⟨r, hr⟩ : ∃ r, r = lastB s c s.size := ⟨_, rfl⟩
  rw [← hr]
  refine Sp.body Tryd.func28 (by kernel_rfl) rfl (by kernel_rfl) (by kernel_rfl) (by kernel_rfl) ?_
  repeat' first
    | (refine codeW_cond rfl ?_; first | (refine condW_dec ?_ ?_ <;> intro _ <;> try (exfalso; omega)) | refine condW_not ?_ | (refine condW_bool ?_ ?_ <;> intro _ <;> try (exfalso; omega)))
    | (refine facW_intro ?_; intro _)
    | refine Or.inl ?_
    | ((conv => whnf); first | (refine condW_dec ?_ ?_ <;> intro _ <;> try (exfalso; omega)) | refine condW_not ?_ | (refine condW_bool ?_ ?_ <;> intro _ <;> try (exfalso; omega)) | (refine nbC_t (fun _ => ?_) ?_) | (refine nbC_f ?_ (fun _ => ?_)))
    | refine And.intro (by first | omega | (simp only [Int.toNat_natCast] at *; omega) | (simp only [Nat.reduceAdd, Int.cast_ofNat_Int, true_and, and_true]; omega)  | kernel_rfl) ?_
    | refine RegW.run ?_
    | fail
  refine ⟨Nat, fun k => [(5, i64 ((k : Int) - 1))], fun k => [], [], fun k => [], fun k => k ≤ s.size ∧ lastB s c k = r, fun k => k, ⟨s.size, ⟨by omega, hr.symm⟩, ⟨[], ⟨by kernel_rfl, by kernel_rfl, by kernel_rfl, by kernel_rfl, by kernel_rfl, by kernel_rfl, by kernel_rfl⟩, (by repeat' first | exact trivial | exact rfl | kernel_rfl | exact Dle.of_eq rfl | exact MLe.of_eq rfl | exact Dle.i (by omega) | exact Dle.i (by simp only [Int.toNat_natCast] at *; omega) | exact Dle.nil | exact Dle.rc Dle.nil | exact Option.some_ne_none _ | exact Or.inl rfl | exact Or.inr trivial | omega | (simp only [Int.toNat_natCast] at *; omega) | (intro _ _ _ _; exact Dle.of_eq rfl) | refine And.intro ?_ ?_)⟩⟩, fun k hk => ?_⟩
  obtain ⟨hk, hR⟩ := hk
  cases k with
  | zero =>
    repeat' first
      | (refine codeW_cond rfl ?_; first | (refine condW_dec ?_ ?_ <;> intro _ <;> try (exfalso; omega)) | refine condW_not ?_ | (refine condW_bool ?_ ?_ <;> intro _ <;> try (exfalso; omega)))
      | (refine facW_intro ?_; intro _)
      | refine Or.inl ?_
      | ((conv => whnf); first | (refine condW_dec ?_ ?_ <;> intro _ <;> try (exfalso; omega)) | refine condW_not ?_ | (refine condW_bool ?_ ?_ <;> intro _ <;> try (exfalso; omega)) | (refine nbC_t (fun _ => ?_) ?_) | (refine nbC_f ?_ (fun _ => ?_)))
      | refine And.intro (by first | omega | (simp only [Int.toNat_natCast] at *; omega) | (simp only [Nat.reduceAdd, Int.cast_ofNat_Int, true_and, and_true]; omega)  | kernel_rfl) ?_
      | refine RegW.run ?_
      | fail
    all_goals first
      | (exfalso; omega)
      | exact Dle.i (by rw [← hR]; rfl)
      | trace_state
  | succ j =>
    have hj : ((((j + 1 : Nat) : Int) - 1)).toNat = j := by omega
    have hb : (bAt s (((j + 1 : Nat) : Int) - 1).toNat).toNat = (bAt s j).toNat := by rw [hj]
    rw [lastB_s] at hR
    repeat' first
      | (refine codeW_cond rfl ?_; first | (refine condW_dec ?_ ?_ <;> intro _ <;> try (exfalso; omega)) | refine condW_not ?_ | (refine condW_bool ?_ ?_ <;> intro _ <;> try (exfalso; omega)))
      | (refine facW_intro ?_; intro _)
      | refine Or.inl ?_
      | ((conv => whnf); first | (refine condW_dec ?_ ?_ <;> intro _ <;> try (exfalso; omega)) | refine condW_not ?_ | (refine condW_bool ?_ ?_ <;> intro _ <;> try (exfalso; omega)) | (refine nbC_t (fun _ => ?_) ?_) | (refine nbC_f ?_ (fun _ => ?_)))
      | refine And.intro (by first | omega | (simp only [Int.toNat_natCast] at *; omega) | (simp only [Nat.reduceAdd, Int.cast_ofNat_Int, true_and, and_true]; omega)  | kernel_rfl) ?_
      | refine RegW.run ?_
      | fail
    all_goals first
      | (exfalso; omega)
      | exact Dle.i (by rw [← hR, if_pos (by omega)]; omega)
      | exact ⟨j, ⟨by omega, (by rw [← hR, if_neg (by omega)])⟩, ⟨[], ⟨by kernel_rfl, by kernel_rfl, by kernel_rfl, by kernel_rfl, by kernel_rfl, by kernel_rfl, by kernel_rfl⟩, (by repeat' first | exact trivial | exact rfl | kernel_rfl | exact Dle.of_eq rfl | exact MLe.of_eq rfl | exact Dle.i (by omega) | exact Dle.i (by simp only [Int.toNat_natCast] at *; omega) | exact Dle.nil | exact Dle.rc Dle.nil | exact Option.some_ne_none _ | exact Or.inl rfl | exact Or.inr trivial | omega | (simp only [Int.toNat_natCast] at *; omega) | (intro _ _ _ _; exact Dle.of_eq rfl) | refine And.intro ?_ ?_)⟩, by first | omega | (dsimp only; omega)⟩
      | trace_state
theorem lastIdx_sp (s : ByteArray) (c : UInt8) (hs : s.size ≤ maxLen) : Sp (cx Tryd.prog mixed tyT_ok E) 14 [dS s, .v (.int .u8 c.toNat)] (i64 (lastB s c s.size)) := by
  have h1 := lastIdxB_sp E s c hs
  generalize lastB s c s.size = r at h1
  refine Sp.body Tryd.func14 (by kernel_rfl) rfl (by kernel_rfl) (by kernel_rfl) (by kernel_rfl) ?_
  repeat' first
    | (refine codeW_cond rfl ?_; first | (refine condW_dec ?_ ?_ <;> intro _ <;> try (exfalso; omega)) | refine condW_not ?_ | (refine condW_bool ?_ ?_ <;> intro _ <;> try (exfalso; omega)))
    | (refine facW_intro ?_; intro _)
    | refine Or.inl ?_
    | ((conv => whnf); first | (refine condW_dec ?_ ?_ <;> intro _ <;> try (exfalso; omega)) | refine condW_not ?_ | (refine condW_bool ?_ ?_ <;> intro _ <;> try (exfalso; omega)) | (refine nbC_t (fun _ => ?_) ?_) | (refine nbC_f ?_ (fun _ => ?_)))
    | refine And.intro (by first | omega | (simp only [Int.toNat_natCast] at *; omega) | (simp only [Nat.reduceAdd, Int.cast_ofNat_Int, true_and, and_true]; omega)  | kernel_rfl) ?_
    | refine RegW.run ?_
    | refine ⟨_, h1, ?_⟩
    | fail
  all_goals exact Dle.refl _ _
theorem cutLast_sp (s : ByteArray) (hs : s.size ≤ maxLen) : Sp (cx Tryd.prog mixed tyT_ok E) 13 [dS s] (.tup [dS (dirV s), dS (lstV s)]) := by
  have h1 := lastIdx_sp E s 47 hs
  have h2 := lastB_lt s 47 s.size
  have hs2 : s.size ≤ 9223372036854775807 := by unfold maxLen at hs; omega
  have hk : cutK s = (lastB s 47 s.size + 1).toNat := rfl
  unfold dirV lstV
  rw [hk]
  generalize lastB s 47 s.size = r at h1 h2
  refine Sp.body Tryd.func13 (by kernel_rfl) rfl (by kernel_rfl) (by kernel_rfl) (by kernel_rfl) ?_
  repeat' first
    | (refine codeW_cond rfl ?_; first | (refine condW_dec ?_ ?_ <;> intro _ <;> try (exfalso; omega)) | refine condW_not ?_ | (refine condW_bool ?_ ?_ <;> intro _ <;> try (exfalso; omega)))
    | (refine facW_intro ?_; intro _)
    | refine Or.inl ?_
    | ((conv => whnf); first | (refine condW_dec ?_ ?_ <;> intro _ <;> try (exfalso; omega)) | refine condW_not ?_ | (refine condW_bool ?_ ?_ <;> intro _ <;> try (exfalso; omega)) | (refine nbC_t (fun _ => ?_) ?_) | (refine nbC_f ?_ (fun _ => ?_)))
    | refine And.intro (by first | omega | (simp only [Int.toNat_natCast] at *; omega) | (simp only [Nat.reduceAdd, Int.cast_ofNat_Int, true_and, and_true]; omega)  | kernel_rfl) ?_
    | refine RegW.run ?_
    | refine ⟨_, h1, ?_⟩
    | fail
  all_goals first
    | (exfalso; omega)
    | exact Dle.refl _ _
    | trace_state
theorem lstPart_sp (s : ByteArray) (hs : s.size ≤ maxLen) : Sp (cx Tryd.prog mixed tyT_ok E) 16 [dS s] (dS (lstV s)) := by
  have h1 := lastIdx_sp E s 47 hs
  have h2 := lastB_lt s 47 s.size
  have hs2 : s.size ≤ 9223372036854775807 := by unfold maxLen at hs; omega
  have hk : cutK s = (lastB s 47 s.size + 1).toNat := rfl
  unfold lstV
  rw [hk]
  generalize lastB s 47 s.size = r at h1 h2
  refine Sp.body Tryd.func16 (by kernel_rfl) rfl (by kernel_rfl) (by kernel_rfl) (by kernel_rfl) ?_
  repeat' first
    | (refine codeW_cond rfl ?_; first | (refine condW_dec ?_ ?_ <;> intro _ <;> try (exfalso; omega)) | refine condW_not ?_ | (refine condW_bool ?_ ?_ <;> intro _ <;> try (exfalso; omega)))
    | (refine facW_intro ?_; intro _)
    | refine Or.inl ?_
    | ((conv => whnf); first | (refine condW_dec ?_ ?_ <;> intro _ <;> try (exfalso; omega)) | refine condW_not ?_ | (refine condW_bool ?_ ?_ <;> intro _ <;> try (exfalso; omega)) | (refine nbC_t (fun _ => ?_) ?_) | (refine nbC_f ?_ (fun _ => ?_)))
    | refine And.intro (by first | omega | (simp only [Int.toNat_natCast] at *; omega) | (simp only [Nat.reduceAdd, Int.cast_ofNat_Int, true_and, and_true]; omega)  | kernel_rfl) ?_
    | refine RegW.run ?_
    | refine ⟨_, h1, ?_⟩
    | fail
  all_goals first
    | (exfalso; omega)
    | exact Dle.refl _ _
    | trace_state
theorem ext_ne (s : ByteArray) {r : Int} (h0 : 0 ≤ r) (h1 : r < s.size) : ¬ s.extract (r + 1).toNat s.size = s := fun e => by
  have := congrArg ByteArray.size e
  rw [ByteArray.size_extract] at this
  omega
theorem kindOf_sp (s : ByteArray) (hs : s.size ≤ maxLen) : Sp (cx Tryd.prog mixed tyT_ok E) 10 [dS s] (i64 (kindN s)) := by
  have h1 := lastIdx_sp E s 46 hs
  have h2 := lastB_lt s 46 s.size
  have hs2 : s.size ≤ 9223372036854775807 := by unfold maxLen at hs; omega
  obtain ⟨k, hk⟩ : ∃ k, k = kindN s := ⟨_, rfl⟩
  rw [← hk]
  unfold kindN at hk
  have hx := fun r h0 h1 => @ext_ne s r h0 h1
  generalize lastB s 46 s.size = r at h1 h2 hk
  by_cases h0 : r < 0
  · rw [if_pos h0] at hk
    obtain rfl : r = -1 := by omega
    have e : s.extract ((-1 : Int) + 1).toNat s.size = s := by simp
    refine Sp.body Tryd.func10 (by kernel_rfl) rfl (by kernel_rfl) (by kernel_rfl) (by kernel_rfl) ?_
    repeat' first
      | (refine codeW_cond rfl ?_; first | (refine condW_dec ?_ ?_ <;> intro _ <;> try (exfalso; first | omega | exact absurd e (by assumption))) | refine condW_not ?_ | (refine condW_bool ?_ ?_ <;> intro _ <;> try (exfalso; first | omega | exact absurd e (by assumption))))
      | (refine facW_intro ?_; intro _)
      | refine Or.inl ?_
      | ((conv => whnf); first | (refine condW_dec ?_ ?_ <;> intro _ <;> try (exfalso; first | omega | exact absurd e (by assumption))) | refine condW_not ?_ | (refine condW_bool ?_ ?_ <;> intro _ <;> try (exfalso; first | omega | exact absurd e (by assumption))) | (refine nbC_t (fun _ => ?_) ?_) | (refine nbC_f ?_ (fun _ => ?_)))
      | refine And.intro (by first | omega | (simp only [Int.toNat_natCast] at *; omega) | (simp only [Nat.reduceAdd, Int.cast_ofNat_Int, true_and, and_true]; omega)  | kernel_rfl) ?_
      | refine RegW.run ?_
      | refine ⟨_, h1, ?_⟩
      | fail
    all_goals first
      | (exfalso; omega)
      | exact Dle.i (by rw [hk])
      | trace_state
  · rw [if_neg h0] at hk
    have hn := hx r (by omega) h2.2
    unfold kindS at hk
    refine Sp.body Tryd.func10 (by kernel_rfl) rfl (by kernel_rfl) (by kernel_rfl) (by kernel_rfl) ?_
    repeat' first
      | (refine codeW_cond rfl ?_; first | (refine condW_dec ?_ ?_ <;> intro _ <;> try (exfalso; first | omega | exact absurd (by assumption) hn)) | refine condW_not ?_ | (refine condW_bool ?_ ?_ <;> intro _ <;> try (exfalso; first | omega | exact absurd (by assumption) hn)))
      | (refine facW_intro ?_; intro _)
      | refine Or.inl ?_
      | ((conv => whnf); first | (refine condW_dec ?_ ?_ <;> intro _ <;> try (exfalso; first | omega | exact absurd (by assumption) hn)) | refine condW_not ?_ | (refine condW_bool ?_ ?_ <;> intro _ <;> try (exfalso; first | omega | exact absurd (by assumption) hn)) | (refine nbC_t (fun _ => ?_) ?_) | (refine nbC_f ?_ (fun _ => ?_)))
      | refine And.intro (by first | omega | (simp only [Int.toNat_natCast] at *; omega) | (simp only [Nat.reduceAdd, Int.cast_ofNat_Int, true_and, and_true]; omega)  | kernel_rfl) ?_
      | refine RegW.run ?_
      | refine ⟨_, h1, ?_⟩
      | fail
    all_goals first
      | (exfalso; omega)
      | exact Dle.i (by rw [hk]; simp_all)
      | trace_state
theorem kindOfR_sp (s : ByteArray) (hs : s.size ≤ maxLen) : Sp (cx Tryd.prog mixed tyT_ok E) 11 [dS s] (i64 (kindN s)) := by
  have h1 := lastIdx_sp E s 46 hs
  have h2 := lastB_lt s 46 s.size
  have hs2 : s.size ≤ 9223372036854775807 := by unfold maxLen at hs; omega
  obtain ⟨k, hk⟩ : ∃ k, k = kindN s := ⟨_, rfl⟩
  rw [← hk]
  unfold kindN at hk
  generalize lastB s 46 s.size = r at h1 h2 hk
  by_cases h0 : r < 0
  · rw [if_pos h0] at hk
    refine Sp.body Tryd.func11 (by kernel_rfl) rfl (by kernel_rfl) (by kernel_rfl) (by kernel_rfl) ?_
    repeat' first
      | (refine codeW_cond rfl ?_; first | (refine condW_dec ?_ ?_ <;> intro _ <;> try (exfalso; omega)) | refine condW_not ?_ | (refine condW_bool ?_ ?_ <;> intro _ <;> try (exfalso; omega)))
      | (refine facW_intro ?_; intro _)
      | refine Or.inl ?_
      | ((conv => whnf); first | (refine condW_dec ?_ ?_ <;> intro _ <;> try (exfalso; omega)) | refine condW_not ?_ | (refine condW_bool ?_ ?_ <;> intro _ <;> try (exfalso; omega)) | (refine nbC_t (fun _ => ?_) ?_) | (refine nbC_f ?_ (fun _ => ?_)))
      | refine And.intro (by first | omega | (simp only [Int.toNat_natCast] at *; omega) | (simp only [Nat.reduceAdd, Int.cast_ofNat_Int, true_and, and_true]; omega)  | kernel_rfl) ?_
      | refine RegW.run ?_
      | refine ⟨_, h1, ?_⟩
      | fail
    all_goals first
      | (exfalso; omega)
      | exact Dle.i (by rw [hk])
      | trace_state
  · rw [if_neg h0] at hk
    unfold kindS at hk
    refine Sp.body Tryd.func11 (by kernel_rfl) rfl (by kernel_rfl) (by kernel_rfl) (by kernel_rfl) ?_
    repeat' first
      | (refine codeW_cond rfl ?_; first | (refine condW_dec ?_ ?_ <;> intro _ <;> try (exfalso; omega)) | refine condW_not ?_ | (refine condW_bool ?_ ?_ <;> intro _ <;> try (exfalso; omega)))
      | (refine facW_intro ?_; intro _)
      | refine Or.inl ?_
      | ((conv => whnf); first | (refine condW_dec ?_ ?_ <;> intro _ <;> try (exfalso; omega)) | refine condW_not ?_ | (refine condW_bool ?_ ?_ <;> intro _ <;> try (exfalso; omega)) | (refine nbC_t (fun _ => ?_) ?_) | (refine nbC_f ?_ (fun _ => ?_)))
      | refine And.intro (by first | omega | (simp only [Int.toNat_natCast] at *; omega) | (simp only [Nat.reduceAdd, Int.cast_ofNat_Int, true_and, and_true]; omega)  | kernel_rfl) ?_
      | refine RegW.run ?_
      | refine ⟨_, h1, ?_⟩
      | fail
    all_goals first
      | (exfalso; omega)
      | exact Dle.i (by rw [hk]; simp_all)
      | trace_state
end
end na
end Go.Proofs.YteojgenhgjhohaaDoor
