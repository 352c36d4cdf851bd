/-
  Slugs: strings.TrimSuffix of any text; the end of tree.Slug.
-/
import Derived.Test.YtiaibkbflmamgaaGreatDoorTp0
import Derived.Test.YtiaibkbflmamgaaGreatDoorBy3
import Derived.Test.YtiaibkbflmamgaaGreatDoorPa0
namespace Go.Proofs.YtiaibkbflmamgaaGreatDoor
open Go.RowKit
set_option linter.unusedVariables false
set_option linter.unusedSimpArgs false
namespace tp
open pn
def sufS (s p : ByteArray) : Bool := decide (p.size ≤ s.size) && decide (s.extract (s.size - p.size) s.size = p)
/-- A text without an ending. -/
def cutS (s p : ByteArray) : ByteArray := if sufS s p = true then s.extract 0 (s.size - p.size) else s
theorem toL_ext {a b : ByteArray} (h : a.data.toList = b.data.toList) : a = b := by
  apply ByteArray.ext
  apply Array.ext'
  exact h
theorem ext_L (s : ByteArray) (a b : Nat) : (s.extract a b).data.toList = (s.data.toList.take b).drop a := by
  simp [ByteArray.data_extract, List.drop_take]
theorem suf_iff (l : List UInt8) : sufS ⟨l.toArray⟩ ⟨#[45]⟩ = decide (l.getLast? = some 45) := by
  have hz : (⟨l.toArray⟩ : ByteArray).size = l.length := by simp [ByteArray.size]
  have hz1 : (⟨#[45]⟩ : ByteArray).size = 1 := rfl
  rw [Bool.eq_iff_iff]
  unfold sufS
  rw [hz, hz1]
  simp only [Bool.and_eq_true, decide_eq_true_eq]
  rcases List.eq_nil_or_concat l with rfl | ⟨m, c, rfl⟩
  · simp
  · rw [List.concat_eq_append, List.getLast?_concat]
    constructor
    · rintro ⟨_, h⟩
      have h := congrArg (fun b : ByteArray => b.data.toList) h
      simp only [ext_L] at h
      have h2 : (m ++ [c]).length - 1 = m.length := by simp
      rw [h2, List.take_of_length_le (Nat.le_refl _), List.drop_left] at h
      have h3 : [c] = [45] := h
      injection h3 with h3
      rw [h3]
    · intro h
      obtain rfl := Option.some.inj h
      refine ⟨by simp, toL_ext ?_⟩
      have h2 : (m ++ [(45 : UInt8)]).length - 1 = m.length := by simp
      rw [ext_L, h2]
      show ((m ++ [45]).take (m ++ [45]).length).drop m.length = [45]
      rw [List.take_of_length_le (Nat.le_refl _), List.drop_left]
theorem cutS_one (l : List UInt8) : cutS ⟨l.toArray⟩ ⟨#[45]⟩ = ⟨(cut1 l).toArray⟩ := by
  unfold cutS cut1
  rw [suf_iff]
  have hz : (⟨l.toArray⟩ : ByteArray).size = l.length := by simp [ByteArray.size]
  by_cases h : l.getLast? = some 45
  · rw [if_pos (decide_eq_true h), if_pos h, hz]
    apply toL_ext
    rw [ext_L, List.drop_zero]
    show l.take (l.length - 1) = l.dropLast
    rw [List.dropLast_eq_take]
  · rw [if_neg (by simpa using h), if_neg h]
section
variable (E : Env)
set_option maxRecDepth 100000
theorem innerSuf_sp (s p : ByteArray) : Sp (cx Tryz.prog mixed tyT_ok E) 131 [dS s, dS p] (dB (sufS s p)) := by
  have e1 : p.size ≤ s.size → ((s.size : Int) - (p.size : Int)).toNat = s.size - p.size := fun h => by omega
  refine Sp.body Tryz.func131 (by kernel_rfl) rfl (by kernel_rfl) (by kernel_rfl) (by kernel_rfl) ?_
  repeat' first
    | (refine codeW_cond rfl ?_; first | (refine condW_dec ?_ ?_ <;> intro _ <;> try (exfalso; omega)) | refine condW_not ?_ | (refine condW_bool ?_ ?_ <;> intro _ <;> try (exfalso; omega)))
    | (refine facW_intro ?_; intro _)
    | refine Or.inl ?_
    | ((conv => whnf); first | (refine condW_dec ?_ ?_ <;> intro _) | refine condW_not ?_ | (refine condW_bool ?_ ?_ <;> intro _) | (refine nbC_t (fun _ => ?_) ?_) | (refine nbC_f ?_ (fun _ => ?_)))
    | refine And.intro (by first | omega | (simp only [Int.toNat_natCast] at *; omega) | (simp only [Nat.reduceAdd, Int.cast_ofNat_Int, true_and, and_true]; omega)  | kernel_rfl) ?_
    | refine RegW.run ?_
    | fail
  all_goals first
    | exact Dle.bo (by unfold sufS; grind)
    | trace_state
theorem innerTrim_sp (s p : ByteArray) : Sp (cx Tryz.prog mixed tyT_ok E) 66 [dS s, dS p] (dS (cutS s p)) := by
  have h1 := innerSuf_sp E s p
  unfold cutS
  cases h : sufS s p
  · rw [h] at h1
    simp only [Bool.false_eq_true, if_false]
    refine Sp.body Tryz.func66 (by kernel_rfl) rfl (by kernel_rfl) (by kernel_rfl) (by kernel_rfl) ?_
    repeat' first
      | (refine codeW_cond rfl ?_; first | (refine condW_dec ?_ ?_ <;> intro _ <;> try (exfalso; omega)) | refine condW_not ?_ | (refine condW_bool ?_ ?_ <;> intro _ <;> try (exfalso; omega)))
      | (refine facW_intro ?_; intro _)
      | refine Or.inl ?_
      | ((conv => whnf); first | (refine condW_dec ?_ ?_ <;> intro _ <;> try (exfalso; omega)) | refine condW_not ?_ | (refine condW_bool ?_ ?_ <;> intro _ <;> try (exfalso; omega)) | (refine nbC_t (fun _ => ?_) ?_) | (refine nbC_f ?_ (fun _ => ?_)))
      | refine And.intro (by first | omega | (simp only [Int.toNat_natCast] at *; omega) | (simp only [Nat.reduceAdd, Int.cast_ofNat_Int, true_and, and_true]; omega)  | kernel_rfl) ?_
      | refine RegW.run ?_
      | refine ⟨_, h1, ?_⟩
      | fail
    all_goals first
      | (exfalso; rename_i h; cases h; done)
      | exact Dle.refl _ _
      | trace_state
  · rw [h] at h1
    simp only [if_true]
    have hz : p.size ≤ s.size := by
      unfold sufS at h
      simp only [Bool.and_eq_true, decide_eq_true_eq] at h
      exact h.1
    have e1 : ((s.size : Int) - (p.size : Int)).toNat = s.size - p.size := by omega
    refine Sp.body Tryz.func66 (by kernel_rfl) rfl (by kernel_rfl) (by kernel_rfl) (by kernel_rfl) ?_
    repeat' first
      | (refine codeW_cond rfl ?_; first | (refine condW_dec ?_ ?_ <;> intro _ <;> try (exfalso; omega)) | refine condW_not ?_ | (refine condW_bool ?_ ?_ <;> intro _ <;> try (exfalso; omega)))
      | (refine facW_intro ?_; intro _)
      | refine Or.inl ?_
      | ((conv => whnf); first | (refine condW_dec ?_ ?_ <;> intro _ <;> try (exfalso; omega)) | refine condW_not ?_ | (refine condW_bool ?_ ?_ <;> intro _ <;> try (exfalso; omega)) | (refine nbC_t (fun _ => ?_) ?_) | (refine nbC_f ?_ (fun _ => ?_)))
      | refine And.intro (by first | omega | (simp only [Int.toNat_natCast] at *; omega) | (simp only [Nat.reduceAdd, Int.cast_ofNat_Int, true_and, and_true]; omega)  | kernel_rfl) ?_
      | refine RegW.run ?_
      | refine ⟨_, h1, ?_⟩
      | fail
    all_goals first
      | (exfalso; rename_i h; cases h; done)
      | (rw [← e1]; exact Dle.refl _ _)
      | trace_state
theorem trimSuf_sp (s p : ByteArray) : Sp (cx Tryz.prog mixed tyT_ok E) 30 [dS s, dS p] (dS (cutS s p)) := by
  have h1 := innerTrim_sp E s p
  generalize cutS s p = t at h1
  refine Sp.body Tryz.func30 (by kernel_rfl) rfl (by kernel_rfl) (by kernel_rfl) (by kernel_rfl) ?_
  repeat' first
    | (refine codeW_cond rfl ?_; first | (refine condW_dec ?_ ?_ <;> intro _ <;> try (exfalso; omega)) | refine condW_not ?_ | (refine condW_bool ?_ ?_ <;> intro _ <;> try (exfalso; omega)))
    | (refine facW_intro ?_; intro _)
    | refine Or.inl ?_
    | ((conv => whnf); first | (refine condW_dec ?_ ?_ <;> intro _) | refine condW_not ?_ | (refine condW_bool ?_ ?_ <;> intro _) | (refine nbC_t (fun _ => ?_) ?_) | (refine nbC_f ?_ (fun _ => ?_)))
    | refine And.intro (by first | omega | (simp only [Int.toNat_natCast] at *; omega) | (simp only [Nat.reduceAdd, Int.cast_ofNat_Int, true_and, and_true]; omega)  | kernel_rfl) ?_
    | refine RegW.run ?_
    | refine ⟨_, h1, ?_⟩
    | fail
  all_goals exact Dle.refl _ _
end
end tp
end Go.Proofs.YtiaibkbflmamgaaGreatDoor
