/-
  Tokens: the reference's words, its first bad byte, the first of two errors.
-/
import Derived.Test.YtkfjnfmpbmmmdaaTk8
namespace Go.Proofs.Ytkfjnfmpbmmmdaa
open Go.RowKit
set_option linter.unusedVariables false
set_option linter.unusedSimpArgs false
namespace tk
def mk2B (c : Nat) : Bool := decide (c ∈ [123, 125, 40, 41, 91, 93, 59, 58, 44, 62, 34, 39, 32, 9, 10])
theorem mk2_all : ∀ n : Fin 256, decide (Lib.indexByte [123, 125, 40, 41, 91, 93, 59, 58, 44, 62, 34, 39, 32, 9, 10] (UInt8.ofNat n.val) < 0) = !(mk2B n.val) := by decide +kernel
theorem mk2_c (c : UInt8) : decide (Lib.indexByte [123, 125, 40, 41, 91, 93, 59, 58, 44, 62, 34, 39, 32, 9, 10] c < 0) = !(mk2B c.toNat) := by
  have := mk2_all ⟨c.toNat, UInt8.toNat_lt c⟩
  simpa using this
/-- The reference's bytes of words. -/
def refW (s : ByteArray) (sc : Bool) (i : Nat) : Bool := if sc then wordB (at_ s i) else (!(mk2B (at_ s i)) && !(hasP s i 47 42))
theorem has_at {s : ByteArray} {i a b : Nat} (h : hasP s i a b = true) : at_ s i = a := by
  unfold hasP at h
  simp only [Bool.and_eq_true, decide_eq_true_eq] at h
  exact h.2.1
theorem cm_neg {s : ByteArray} {sc : Bool} {i : Nat} (h1 : hasP s i 47 42 = false) (h2 : sc = true → hasP s i 47 47 = false) : cmE s sc i < 0 := by
  unfold cmE cm
  rw [if_neg (by rw [h1]; decide)]
  cases sc
  · rw [if_neg (by simp)]; decide
  · rw [if_neg (by rw [h2 rfl]; decide)]; decide
theorem cm_pos {s : ByteArray} {sc : Bool} {i : Nat} (hi : i < s.size) (h1 : hasP s i 47 42 = true) : 0 ≤ cmE s sc i := by
  have h := cmE_ok s sc i hi
  have h3 := ixE_or s (i + 2) (by unfold hasP at h1; simp only [Bool.and_eq_true, decide_eq_true_eq] at h1; exact h1.1)
  unfold cmE cm
  rw [if_pos h1]
  split <;> omega
theorem has_no {s : ByteArray} {i a b : Nat} (h : ¬ at_ s i = a) : hasP s i a b = false := by
  cases h' : hasP s i a b
  · rfl
  · exact absurd (has_at h') h
theorem refW_beg {s : ByteArray} {sc : Bool} {i : Nat} (h : refW s sc i = true) (hb : badB (at_ s i) = false) : begB cmE s sc i = false := by
  have hc : cmE s sc i < 0 := by
    cases sc
    · unfold refW at h
      simp at h
      exact cm_neg (by simpa using h.2) (fun h => by cases h)
    · unfold refW at h
      rw [if_pos rfl] at h
      have h47 : ¬ at_ s i = 47 := fun e => by rw [e] at h; exact absurd h (by decide)
      exact cm_neg (has_no h47) (fun _ => has_no h47)
  unfold begB
  rw [hb, Bool.or_false, decide_eq_false (show ¬ 0 ≤ cmE s sc i by omega), Bool.or_false]
  cases sc
  · unfold refW at h
    simp only [Bool.false_eq_true, if_false, Bool.and_eq_true, Bool.not_eq_true'] at h
    have h1 := h.1
    unfold mk2B at h1
    simp only [decide_eq_false_iff_not, List.mem_cons, List.not_mem_nil, or_false, not_or] at h1
    unfold markB mkB blkB
    simp only [Bool.false_eq_true, if_false, Bool.or_eq_false_iff, decide_eq_false_iff_not, List.mem_cons, List.not_mem_nil, or_false, not_or]
    omega
  · unfold refW at h
    rw [if_pos rfl] at h
    unfold markB
    rw [if_pos rfl, h]
    unfold wordB at h
    unfold blkB
    simp only [Bool.or_eq_true, Bool.and_eq_true, decide_eq_true_eq] at h
    simp only [Bool.not_true, Bool.or_false, Bool.or_eq_false_iff, decide_eq_false_iff_not]
    omega
theorem refW_no {s : ByteArray} {sc : Bool} {i : Nat} (hi : i < s.size) (h : refW s sc i = false) : begB cmE s sc i = true := by
  unfold begB
  cases sc
  · unfold refW at h
    simp only [Bool.false_eq_true, if_false] at h
    cases hp : hasP s i 47 42
    · rw [hp] at h
      have h1 : mk2B (at_ s i) = true := by simpa using h
      unfold mk2B at h1
      simp only [decide_eq_true_eq, List.mem_cons, List.not_mem_nil, or_false] at h1
      unfold markB mkB blkB
      simp only [Bool.false_eq_true, if_false, Bool.or_eq_true, decide_eq_true_eq, List.mem_cons, List.not_mem_nil, or_false]
      omega
    · have := cm_pos (sc := false) hi hp
      simp [this]
  · unfold refW at h
    rw [if_pos rfl] at h
    unfold markB
    rw [if_pos rfl, h]
    simp
theorem blk_good {c : Nat} (h : blkB c = true) : badB c = false := by
  unfold blkB at h
  unfold badB
  simp only [Bool.or_eq_true, decide_eq_true_eq] at h
  simp only [Bool.or_eq_false_iff, Bool.and_eq_false_iff, decide_eq_false_iff_not, Bool.not_eq_false', decide_eq_true_eq]
  omega
/-- A bad byte is neither a blank nor a quote, and begins no comment. -/
theorem bad_is {s : ByteArray} {sc : Bool} {i : Nat} (h : badB (at_ s i) = true) : blkB (at_ s i) = false ∧ ¬ (at_ s i = 34 ∨ at_ s i = 39) ∧ cmE s sc i < 0 := by
  unfold badB at h
  simp only [Bool.or_eq_true, Bool.and_eq_true, decide_eq_true_eq, Bool.not_eq_true', decide_eq_false_iff_not] at h
  refine ⟨?_, by omega, cm_neg (has_no (by omega)) (fun _ => has_no (by omega))⟩
  unfold blkB
  simp only [Bool.or_eq_false_iff, decide_eq_false_iff_not]
  omega
section
variable (E : Env)
set_option maxRecDepth 100000
theorem isWord7_sp (s : ByteArray) (sc : Bool) (i : Nat) (hi : i < s.size) : Sp (cx Try.prog mixed tyT_ok E) 54 [dS s, i64 i, dB sc] (dB (refW s sc i)) := by
  have e0 : ((bAt s ((i : Int)).toNat).toNat : Int) = at_ s i := rfl
  cases sc
  · have h2 : Sp (cx Try.prog mixed tyT_ok E) 99 [dS ⟨#[123, 125, 40, 41, 91, 93, 59, 58, 44, 62, 34, 39, 32, 9, 10]⟩, .v (.int .u8 ((bAt s ((i : Int)).toNat).toNat : Int))] (i64 (Lib.indexByte [123, 125, 40, 41, 91, 93, 59, 58, 44, 62, 34, 39, 32, 9, 10] (bAt s i))) := idxB_sp E ⟨#[123, 125, 40, 41, 91, 93, 59, 58, 44, 62, 34, 39, 32, 9, 10]⟩ (bAt s i)
    have h3 := mk2_c (bAt s i)
    have h4 : Sp (cx Try.prog mixed tyT_ok E) 97 [dS (s.extract ((i : Int)).toNat ((s.size : Int)).toNat), dS ⟨#[47, 42]⟩] (dB (hasP s i 47 42)) := pre2_sp E s i (by omega) 47 42
    unfold refW
    simp only [Bool.false_eq_true, if_false]
    change _ = !(mk2B (at_ s i)) at h3
    rw [← h3]
    generalize Lib.indexByte [123, 125, 40, 41, 91, 93, 59, 58, 44, 62, 34, 39, 32, 9, 10] (bAt s i) = y at *
    generalize hasP s i 47 42 = p at *
    refine Sp.body Try.func54 (by kernel_rfl) rfl (by kernel_rfl) (by kernel_rfl) (by kernel_rfl) ?_
    repeat' first
      | (refine facW_intro ?_; intro _)
      | refine Or.inl ?_
      | ((conv => whnf); first | (refine condW_dec ?_ ?_ <;> intro _ <;> try (exfalso; omega)) | refine condW_not ?_ | (refine condW_bool ?_ ?_ <;> intro _ <;> try (exfalso; omega)) | (refine nbC_t (fun _ => ?_) ?_) | (refine nbC_f ?_ (fun _ => ?_)))
      | refine And.intro (by first | omega | (simp only [Int.toNat_natCast] at *; omega) | (simp only [Nat.reduceAdd, Int.cast_ofNat_Int, true_and, and_true]; omega) | kernel_rfl) ?_
      | refine RegW.run ?_
      | refine ⟨_, h2, ?_⟩
      | refine ⟨_, h4, ?_⟩
      | fail
    all_goals first
      | (exfalso; rename_i h; exact h rfl)
      | exact Dle.bo (by first | (simp_all; done) | (simp_all; omega))
      | trace_state
  · unfold refW
    rw [if_pos rfl]
    unfold wordB
    refine Sp.body Try.func54 (by kernel_rfl) rfl (by kernel_rfl) (by kernel_rfl) (by kernel_rfl) ?_
    repeat' first
      | (refine facW_intro ?_; intro _)
      | refine Or.inl ?_
      | ((conv => whnf); first | (refine condW_dec ?_ ?_ <;> intro _ <;> try (exfalso; omega)) | refine condW_not ?_ | (refine condW_bool ?_ ?_ <;> intro _ <;> try (exfalso; omega)) | (refine nbC_t (fun _ => ?_) ?_) | (refine nbC_f ?_ (fun _ => ?_)))
      | refine And.intro (by first | omega | (simp only [Int.toNat_natCast] at *; omega) | (simp only [Nat.reduceAdd, Int.cast_ofNat_Int, true_and, and_true]; omega) | kernel_rfl) ?_
      | refine RegW.run ?_
      | fail
    all_goals simp only [e0] at *
    all_goals first
      | (exfalso; rename_i h; exact h rfl)
      | exact Dle.bo (by first | grind | (simp_all; omega))
      | trace_state
theorem fault7_a (z a e : Int) (h1 : 0 ≤ z) (h2 : z < a) : Sp (cx Try.prog mixed tyT_ok E) 52 [i64 z, i64 a, i64 e] (.tup [.v (.slice none 0 0), i64 z, i64 9]) := by
  refine Sp.body Try.func52 (by kernel_rfl) rfl (by kernel_rfl) (by kernel_rfl) (by kernel_rfl) ?_
  repeat' first
    | (refine facW_intro ?_; intro _)
    | refine Or.inl ?_
    | ((conv => whnf); first | (refine condW_dec ?_ ?_ <;> intro _ <;> try (exfalso; omega)) | refine condW_not ?_ | (refine condW_bool ?_ ?_ <;> intro _ <;> try (exfalso; omega)) | (refine nbC_t (fun _ => ?_) ?_) | (refine nbC_f ?_ (fun _ => ?_)))
    | refine And.intro (by first | omega | (simp only [Int.toNat_natCast] at *; omega) | (simp only [Nat.reduceAdd, Int.cast_ofNat_Int, true_and, and_true]; omega) | kernel_rfl) ?_
    | refine RegW.run ?_
    | fail
  all_goals first
    | (exfalso; rename_i h; exact h rfl)
    | (exfalso; omega)
    | exact Dle.refl _ _
    | trace_state
theorem fault7_b (z a e : Int) (h1 : ¬ (0 ≤ z ∧ z < a)) : Sp (cx Try.prog mixed tyT_ok E) 52 [i64 z, i64 a, i64 e] (.tup [.v (.slice none 0 0), i64 a, i64 e]) := by
  refine Sp.body Try.func52 (by kernel_rfl) rfl (by kernel_rfl) (by kernel_rfl) (by kernel_rfl) ?_
  repeat' first
    | (refine facW_intro ?_; intro _)
    | refine Or.inl ?_
    | ((conv => whnf); first | (refine condW_dec ?_ ?_ <;> intro _ <;> try (exfalso; omega)) | refine condW_not ?_ | (refine condW_bool ?_ ?_ <;> intro _ <;> try (exfalso; omega)) | (refine nbC_t (fun _ => ?_) ?_) | (refine nbC_f ?_ (fun _ => ?_)))
    | refine And.intro (by first | omega | (simp only [Int.toNat_natCast] at *; omega) | (simp only [Nat.reduceAdd, Int.cast_ofNat_Int, true_and, and_true]; omega) | kernel_rfl) ?_
    | refine RegW.run ?_
    | fail
  all_goals first
    | (exfalso; rename_i h; exact h rfl)
    | (exfalso; omega)
    | exact Dle.refl _ _
    | trace_state
theorem idxFunc_sp (s : ByteArray) : Sp (cx Try.prog mixed tyT_ok E) 95 [dS s, .fn 96 []] (i64 (chk s 0 s.size)) := by
  refine .inl ⟨⟨_, _, Try.func95, by kernel_rfl, rfl⟩, fun M β w vs hG hMG hM hl hr hp hb => ?_⟩
  have h0 := (hr 0 _ rfl).val.1
  have h1 : vs.getD 1 undef = .func (.func 96) #[] #[] := by
    have := hr 1 _ rfl
    generalize vs.getD 1 undef = x at this
    cases this with
    | fn hn h =>
      rename_i us
      have e1 : us = #[] := Array.eq_empty_of_size_eq_zero hn
      rw [e1]
  have e : vs = #[.string s, .func (.func 96) #[] #[]] := by
    apply Array.ext
    · simpa using hl
    · intro i g1 g2
      have g3 : i = 0 ∨ i = 1 := by simp at g2; omega
      rcases g3 with rfl | rfl
      · simpa [Array.getD, g1] using h0
      · simpa [Array.getD, g1] using h1
  rw [e]
  refine (Try.strings_IndexFunc 96 #[] (enters_of Try.func96 (by kernel_rfl) rfl) badB s w (refused1 w)).mono fun e' w' ⟨he, hbw⟩ => ?_
  rw [idx_all] at he
  exact ⟨_, M, β, he, Kp.of hbw _, fun _ _ _ => rfl, fun _ _ h => h, fun _ _ h => .inl h, .v rfl, ⟨fun l o hm => (by cases hm), fun l o l' o' b c c' hm => (by cases hm)⟩, fun b ⟨l, o, c, hm, _⟩ => (by cases hm)⟩
theorem refused_sp (s : ByteArray) : Sp (cx Try.prog mixed tyT_ok E) 50 [dS s] (i64 (chk s 0 s.size)) := by
  have h1 := idxFunc_sp E s
  generalize chk s 0 s.size = z at *
  refine Sp.body Try.func50 (by kernel_rfl) rfl (by kernel_rfl) (by kernel_rfl) (by kernel_rfl) ?_
  repeat' first
    | (refine facW_intro ?_; intro _)
    | refine Or.inl ?_
    | ((conv => whnf); first | (refine condW_dec ?_ ?_ <;> intro _ <;> try (exfalso; omega)) | refine condW_not ?_ | (refine condW_bool ?_ ?_ <;> intro _ <;> try (exfalso; omega)) | (refine nbC_t (fun _ => ?_) ?_) | (refine nbC_f ?_ (fun _ => ?_)))
    | refine And.intro (by first | omega | (simp only [Int.toNat_natCast] at *; omega) | (simp only [Nat.reduceAdd, Int.cast_ofNat_Int, true_and, and_true]; omega) | kernel_rfl) ?_
    | refine RegW.run ?_
    | refine ⟨_, h1, ?_⟩
    | fail
  all_goals first
    | exact Dle.refl _ _
    | trace_state
end
end tk
end Go.Proofs.Ytkfjnfmpbmmmdaa
