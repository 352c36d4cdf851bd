/-
  Keys of settings. Fields that a kind does not use.
-/
import Derived.Test.YtiiohopjkepkgaaGreatDoorQ1
namespace Go.Proofs.YtiiohopjkepkgaaGreatDoor
open Go.RowKit
set_option linter.unusedVariables false
set_option linter.unusedSimpArgs false
theorem str_pos {s : ByteArray} (h : ¬ s = ⟨#[]⟩) : 0 < s.size := by
  rcases Nat.eq_zero_or_pos s.size with h0 | h0
  · exact absurd (by cases s with | mk d => exact congrArg _ (Array.eq_empty_of_size_eq_zero h0)) h
  · exact h0
theorem allN_one {n : Nat} {p : Nat → Bool} (h : n = 1) (hp : p 0 = true) : allN n p = true := by subst h; simp [allN, hp]
theorem keyOkB_no1 {s : ByteArray} (h : s = ⟨#[]⟩) : keyOkB s = false := by subst h; unfold keyOkB; rfl
theorem keyOkB_no2 {s : ByteArray} (h : 40 < s.size) : keyOkB s = false := by unfold keyOkB; simp; omega
theorem keyOkB_no3 {s : ByteArray} (h : smallB (bAt s 0) = false) : keyOkB s = false := by unfold keyOkB; simp [h]
theorem keyOkB_no4 {s : ByteArray} {k : Nat} (h : kchB (bAt s k) = false) (hk : k < s.size) : keyOkB s = false := by unfold keyOkB; rw [allN_no hk h]; simp
theorem keyOkB_yes {s : ByteArray} (h0 : 0 < s.size) (h1 : s.size ≤ 40) (h2 : smallB (bAt s 0) = true) (h3 : allN s.size (fun k => kchB (bAt s k)) = true) : keyOkB s = true := by unfold keyOkB; simp [h0, h1, h2, h3]
section
variable (E : Env)
set_option maxRecDepth 100000

theorem isKey_sp (s : ByteArray) : Sp (cx Tryz.prog mixed tyT_ok E) 202 [dS s] (dB (keyOkB s)) := by
  refine Sp.body Tryz.func202 (by kernel_rfl) rfl (by kernel_rfl) (by kernel_rfl) (by kernel_rfl) ?_
  refine Or.inl ?_
  refine condW_dec ?_ ?_ <;> intro h0
  · exact Dle.bo (by rw [keyOkB_no1 h0])
  have hp := str_pos h0
  repeat' first
    | (refine facW_intro ?_; intro _)
    | refine Or.inl ?_
    | ((conv => whnf); first | (refine condW_dec ?_ ?_ <;> intro _) | refine condW_not ?_ | (refine condW_bool ?_ ?_ <;> intro _) | (refine nbC_t (fun _ => ?_) ?_) | (refine nbC_f ?_ (fun _ => ?_)))
    | refine And.intro (by first | omega | (simp only [Int.toNat_natCast] at *; omega) | (simp only [Nat.reduceAdd, Int.cast_ofNat_Int, true_and, and_true]; omega) | kernel_rfl) ?_
    | refine RegW.run ?_
    | refine ⟨_, isSmall_sp E _, ?_⟩
    | fail
  · exact Dle.bo (by rw [keyOkB_no2 (by omega)])
  rotate_left
  · rename_i h
    exact Dle.bo (by rw [keyOkB_no3 h])
  rename_i hs
  refine ⟨Nat, fun k => [(3, i64 k)], fun k => [], [], fun k => [], fun k => 1 ≤ k ∧ k ≤ s.size ∧ allN k (fun k => kchB (bAt s k)) = true, fun k => s.size - k, ⟨1, ⟨by omega, by omega, allN_one rfl (by simp only [kchB, Bool.or_eq_true]; exact Or.inl (Or.inl (Or.inl hs)))⟩, ⟨[], ⟨by kernel_rfl, by kernel_rfl, by kernel_rfl, by kernel_rfl, by kernel_rfl, by kernel_rfl, by kernel_rfl⟩, (by repeat' first | exact trivial | exact rfl | kernel_rfl | exact Dle.of_eq rfl | exact MLe.of_eq rfl | exact Dle.i (by omega) | exact Dle.i (by simp only [Int.toNat_natCast] at *; omega) | exact Dle.nil | exact Dle.rc Dle.nil | exact Option.some_ne_none _ | exact Or.inl rfl | exact Or.inr trivial | omega | (simp only [Int.toNat_natCast] at *; omega) | (intro _ _ _ _; exact Dle.of_eq rfl) | refine And.intro ?_ ?_)⟩⟩, fun k hk => ?_⟩
  obtain ⟨h1, hk, hall⟩ := hk
  have hend : s.size ≤ k → keyOkB s = true := fun h => by
    obtain rfl : k = s.size := by omega
    exact keyOkB_yes hp (by omega) hs hall
  have hno : k < s.size → kchB (bAt s k) = false → keyOkB s = false := fun h e => keyOkB_no4 e h
  repeat' first
    | (refine facW_intro ?_; intro _)
    | refine Or.inl ?_
    | ((conv => whnf); first | (refine condW_dec ?_ ?_ <;> intro _) | refine condW_not ?_ | (refine condW_bool ?_ ?_ <;> intro _) | (refine nbC_t (fun _ => ?_) ?_) | (refine nbC_f ?_ (fun _ => ?_)))
    | refine And.intro (by first | omega | (simp only [Int.toNat_natCast] at *; omega) | (simp only [Nat.reduceAdd, Int.cast_ofNat_Int, true_and, and_true]; omega) | kernel_rfl) ?_
    | refine RegW.run ?_
    | refine ⟨_, isSmall_sp E _, ?_⟩
    | refine ⟨_, isDigit_sp E _, ?_⟩
    | fail
  all_goals first
    | (refine ⟨k + 1, ⟨by omega, by omega, allN_succ hall ?_⟩, ⟨[], ⟨by kernel_rfl, by kernel_rfl, by kernel_rfl, by kernel_rfl, by kernel_rfl, by kernel_rfl, by kernel_rfl⟩, (by repeat' first | exact trivial | exact rfl | kernel_rfl | exact Dle.of_eq rfl | exact MLe.of_eq rfl | exact Dle.i (by omega) | exact Dle.i (by simp only [Int.toNat_natCast] at *; omega) | exact Dle.nil | exact Dle.rc Dle.nil | exact Option.some_ne_none _ | exact Or.inl rfl | exact Or.inr trivial | omega | (simp only [Int.toNat_natCast] at *; omega) | (intro _ _ _ _; exact Dle.of_eq rfl) | refine And.intro ?_ ?_)⟩, by first | omega | (dsimp only; omega)⟩; simp only [Int.toNat_natCast] at *; simp only [kchB, Bool.or_eq_true, decide_eq_true_eq]; grind)
    | exact Dle.bo (by rw [hend (by omega)])
    | exact Dle.bo (by rw [hno (by omega) (by simp only [Int.toNat_natCast] at *; simp only [kchB, Bool.or_eq_false_iff, decide_eq_false_iff_not]; grind)])
    | trace_state
end
end Go.Proofs.YtiiohopjkepkgaaGreatDoor
namespace Go.Proofs.YtiiohopjkepkgaaGreatDoor
open Go.RowKit
set_option linter.unusedVariables false
set_option linter.unusedSimpArgs false
/-- A field that a kind does not use is not zero. -/
def unusedP (v : Vu) : Prop :=
  (v.b = true ∧ v.kind ≠ 1) ∨ (v.i ≠ 0 ∧ v.kind ≠ 2 ∧ v.kind ≠ 4) ∨ (v.text ≠ ⟨#[]⟩ ∧ v.kind ≠ 3) ∨ (0 < v.items.length ∧ v.kind ≠ 5 ∧ v.kind ≠ 6) ∨ (0 < v.keys.length ∧ v.kind ≠ 6) ∨ (v.kind = 6 ∧ v.keys.length ≠ v.items.length)
instance (v : Vu) : Decidable (unusedP v) := by unfold unusedP; infer_instance
def badDayP (n : Int) : Prop := n < 0 ∨ 84005 < n
instance (n : Int) : Decidable (badDayP n) := by unfold badDayP; infer_instance
section
variable (E : Env)
set_option maxRecDepth 100000
theorem badDay_sp (n : Int) : Sp (cx Tryz.prog mixed tyT_ok E) 200 [i64 n] (dB (decide (badDayP n))) := by
  refine Sp.body Tryz.func200 (by kernel_rfl) rfl (by kernel_rfl) (by kernel_rfl) (by kernel_rfl) ?_
  repeat' first
    | (refine facW_intro ?_; intro _)
    | refine Or.inl ?_
    | ((conv => whnf); first | (refine condW_dec ?_ ?_ <;> intro _ <;> try (exfalso; omega)) | refine condW_not ?_ | (refine condW_bool ?_ ?_ <;> intro _ <;> try (exfalso; omega)) | (refine nbC_t (fun _ => ?_) ?_) | (refine nbC_f ?_ (fun _ => ?_)))
    | refine And.intro (by first | omega | (simp only [Int.toNat_natCast] at *; omega) | (simp only [Nat.reduceAdd, Int.cast_ofNat_Int, true_and, and_true]; omega) | kernel_rfl) ?_
    | refine RegW.run ?_
    | fail
  all_goals exact Dle.bo (by unfold badDayP; grind)
set_option maxHeartbeats 1000000 in
theorem unused_sp (v : Vu) : Sp (cx Tryz.prog mixed tyT_ok E) 199 [encV v] (dB (decide (unusedP v))) := by
  refine Sp.body Tryz.func199 (by kernel_rfl) rfl (by kernel_rfl) (by kernel_rfl) (by kernel_rfl) ?_
  repeat' first
    | (refine facW_intro ?_; intro _)
    | refine Or.inl ?_
    | ((conv => whnf); first | (refine condW_dec ?_ ?_ <;> intro _ <;> try (exfalso; omega)) | refine condW_not ?_ | (refine condW_bool ?_ ?_ <;> intro _ <;> try (exfalso; omega)) | (refine nbC_t (fun _ => ?_) ?_) | (refine nbC_f ?_ (fun _ => ?_)))
    | refine And.intro (by first | omega | (simp only [Int.toNat_natCast] at *; omega) | (simp only [Nat.reduceAdd, Int.cast_ofNat_Int, true_and, and_true]; omega) | kernel_rfl) ?_
    | refine RegW.run ?_
    | fail
  all_goals first
    | exact Dle.bo (by unfold unusedP; grind)
end
end Go.Proofs.YtiiohopjkepkgaaGreatDoor
