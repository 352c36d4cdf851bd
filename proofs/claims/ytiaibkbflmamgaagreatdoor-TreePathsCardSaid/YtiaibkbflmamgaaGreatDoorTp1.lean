/-
  Slugs: the program's walk.
-/
import Derived.Test.YtiaibkbflmamgaaGreatDoorTp0
import Derived.Test.YtiaibkbflmamgaaGreatDoorTp2
namespace Go.Proofs.YtiaibkbflmamgaaGreatDoor
open Go.RowKit
set_option linter.unusedVariables false
set_option linter.unusedSimpArgs false
namespace tp
open pn
section
variable (E : Env)
set_option maxRecDepth 100000
theorem mkS_take (l : List UInt8) (n : Nat) (h : n = min l.length 40) : mkS n (fun i => l.getD i 0) = ⟨(l.take 40).toArray⟩ := by
  unfold mkS
  congr 2
  apply List.ext_getElem
  · simp [h]; omega
  · intro i h1 h2
    simp only [List.getElem_map, List.getElem_range, List.getElem_take]
    rw [List.getD_eq_getElem?_getD, List.getElem?_eq_getElem (by simp at h2; omega)]
    rfl
set_option maxHeartbeats 8000000 in
theorem slug_sp (s : ByteArray) (hs : s.size ≤ 140737488351232) : Sp (cx Tryz.prog mixed tyT_ok E) 10 [dS s] (dS ⟨(slug s.data.toList).toArray⟩) := by
  refine Sp.body Tryz.func10 (by kernel_rfl) rfl (by kernel_rfl) (by kernel_rfl) (by kernel_rfl) ?_
  repeat' first
    | (refine codeW_cond rfl ?_; first | (refine condW_dec ?_ ?_ <;> intro _ <;> try (exfalso; omega)) | refine condW_not ?_ | (refine condW_bool ?_ ?_ <;> intro _ <;> try (exfalso; omega)))
    | (refine facW_intro ?_; intro _)
    | refine Or.inl ?_
    | ((conv => whnf); first | (refine condW_dec ?_ ?_ <;> intro _ <;> try (exfalso; omega)) | refine condW_not ?_ | (refine condW_bool ?_ ?_ <;> intro _ <;> try (exfalso; omega)) | (refine nbC_t (fun _ => ?_) ?_) | (refine nbC_f ?_ (fun _ => ?_)))
    | refine And.intro (by first | omega | (simp only [Int.toNat_natCast] at *; omega) | (simp only [Nat.reduceAdd, Int.cast_ofNat_Int, true_and, and_true]; omega)  | kernel_rfl) ?_
    | refine RegW.run ?_
    | fail
  refine ⟨Nat, fun k => [(4, i64 k), (3, .own 6 1 0 (pAll (s.data.toList.take k)).length)], fun k => [], [], fun k => [(6, 5, (pAll (s.data.toList.take k)).length, rowB (pAll (s.data.toList.take k)))], fun k => k ≤ s.size, fun k => s.size - k, ⟨0, by omega, ⟨[(6, none)], ⟨by kernel_rfl, by kernel_rfl, by kernel_rfl, by kernel_rfl, by kernel_rfl, by kernel_rfl, by kernel_rfl⟩, (by repeat' first | exact trivial | exact rfl | kernel_rfl | exact Dle.of_eq rfl | exact MLe.of_eq rfl | exact Dle.i (by omega) | exact Dle.i (by simp only [Int.toNat_natCast] at *; omega) | exact Dle.nil | exact Dle.rc Dle.nil | exact Option.some_ne_none _ | exact Or.inl rfl | exact Or.inr trivial | omega | (simp only [Int.toNat_natCast] at *; omega) | (intro _ _ _ _; exact Dle.of_eq rfl) | refine And.intro ?_ ?_)⟩⟩, fun k hk => ?_⟩
  have hk2 : k ≤ s.size := hk
  have hpl : (pAll (s.data.toList.take k)).length ≤ k := Nat.le_trans (pAll_len _) (by rw [List.length_take]; exact Nat.min_le_left _ _)
  by_cases hlt : k < s.size
  · have hin := t_isSmall_sp E (low (bAt s k))
    have hdg := t_isDigit_sp E (low (bAt s k))
    have hst : pAll (s.data.toList.take (k + 1)) = pStep (pAll (s.data.toList.take k)) (bAt s k) := by rw [take_byte hlt, pAll_snoc]
    have hrow : ∀ (y : List UInt8) (h : pAll (s.data.toList.take (k + 1)) = (pAll (s.data.toList.take k)) ++ y), y.length = 1 → (∀ (n : Int), n = (y.getD 0 0).toNat → ∀ i j, i < (pAll (s.data.toList.take k)).length + 1 → j < 1 → Dle (cx Tryz.prog mixed tyT_ok E) (if i < (pAll (s.data.toList.take k)).length then rowB (pAll (s.data.toList.take k)) i j else ([.v (.int .u8 n)] : List DD).getD ((i - (pAll (s.data.toList.take k)).length) * 1 + j) .opq) (rowB (pAll (s.data.toList.take (k + 1))) i j)) ∧ (pAll (s.data.toList.take k)).length + 1 = (pAll (s.data.toList.take (k + 1))).length := by
      intro y h hy
      rw [h]
      refine ⟨fun n hn => ?_, by rw [List.length_append, hy]⟩
      match y, hy with
      | [b], _ => exact rb_app E (y := [b]) rfl (rb_self E) rfl (rb_lit E n b hn)
    by_cases hup : 65 ≤ (bAt s k).toNat ∧ (bAt s k).toNat ≤ 90
    · have hl := low_up hup
      rw [← hl] at hin hdg
      by_cases ha : aln (low (bAt s k)) = true
      · have hA := hrow [low (bAt s k)] (by rw [hst, pStep_aln ha]) rfl
        have ha' : smallB (low (bAt s k)) = true ∨ digitB (low (bAt s k)) = true := by unfold aln at ha; simpa using ha
        clear ha
        generalize smallB (low (bAt s k)) = b1 at hin ha'
        generalize digitB (low (bAt s k)) = b2 at hdg ha'
        repeat' first
          | (refine codeW_cond rfl ?_; first | (refine condW_dec ?_ ?_ <;> intro _ <;> try (exfalso; omega)) | refine condW_not ?_ | (refine condW_bool ?_ ?_ <;> intro _ <;> try (exfalso; omega)))
          | (refine facW_intro ?_; intro _)
          | refine Or.inl ?_
          | ((conv => whnf); first | (refine condW_dec ?_ ?_ <;> intro _ <;> try (exfalso; omega)) | refine condW_not ?_ | (refine condW_bool ?_ ?_ <;> intro _ <;> try (exfalso; omega)) | (refine nbC_t (fun _ => ?_) ?_) | (refine nbC_f ?_ (fun _ => ?_)))
          | refine And.intro (by first | omega | (simp only [Int.toNat_natCast] at *; omega) | (simp only [Nat.reduceAdd, Int.cast_ofNat_Int, true_and, and_true]; omega)  | kernel_rfl) ?_
          | refine RegW.run ?_
          | refine ⟨_, hin, ?_⟩
          | refine ⟨_, hdg, ?_⟩
          | fail
        all_goals first
          | (exfalso; revert ha'; subst_vars; decide)
          | (exfalso; omega)
          | (exfalso; simp only [Int.toNat_natCast] at *; omega)
          | exact ⟨k + 1, by omega, ⟨[(6, some 32)], ⟨by kernel_rfl, by kernel_rfl, by kernel_rfl, by kernel_rfl, by kernel_rfl, by kernel_rfl, by kernel_rfl⟩, (by repeat' first | (exact hA.2) | exact trivial | exact rfl | kernel_rfl | exact Dle.of_eq rfl | exact MLe.of_eq rfl | exact Dle.i (by omega) | exact Dle.i (by simp only [Int.toNat_natCast] at *; omega) | exact Dle.nil | exact Dle.rc Dle.nil | exact Option.some_ne_none _ | exact Or.inl rfl | exact Or.inr trivial | omega | (simp only [Int.toNat_natCast] at *; omega) | (intro _ _ _ _; exact Dle.of_eq rfl) | (intro i j hi hj; exact hA.1 _ hl i j hi hj) | refine And.intro ?_ ?_)⟩, by first | omega | (dsimp only; omega)⟩
          | trace_state
      · have hna : aln (low (bAt s k)) = false := by simpa using ha
        have hb1 : smallB (low (bAt s k)) = false := by unfold aln at hna; simp only [Bool.or_eq_false_iff] at hna; exact hna.1
        have hb2 : digitB (low (bAt s k)) = false := by unfold aln at hna; simp only [Bool.or_eq_false_iff] at hna; exact hna.2
        rw [hb1] at hin
        rw [hb2] at hdg
        by_cases h0 : (pAll (s.data.toList.take k)).length = 0
        · have hB : pAll (s.data.toList.take (k + 1)) = (pAll (s.data.toList.take k)) := by rw [hst]; exact pStep_nil hna h0
          have hBl := (congrArg List.length hB).symm
          clear ha hna hb1 hb2
          repeat' first
            | (refine codeW_cond rfl ?_; first | (refine condW_dec ?_ ?_ <;> intro _ <;> try (exfalso; omega)) | refine condW_not ?_ | (refine condW_bool ?_ ?_ <;> intro _ <;> try (exfalso; omega)))
            | (refine facW_intro ?_; intro _)
            | refine Or.inl ?_
            | ((conv => whnf); first | (refine condW_dec ?_ ?_ <;> intro _ <;> try (exfalso; omega)) | refine condW_not ?_ | (refine condW_bool ?_ ?_ <;> intro _ <;> try (exfalso; omega)) | (refine nbC_t (fun _ => ?_) ?_) | (refine nbC_f ?_ (fun _ => ?_)))
            | refine And.intro (by first | omega | (simp only [Int.toNat_natCast] at *; omega) | (simp only [Nat.reduceAdd, Int.cast_ofNat_Int, true_and, and_true]; omega)  | kernel_rfl) ?_
            | refine RegW.run ?_
            | refine ⟨_, hin, ?_⟩
            | refine ⟨_, hdg, ?_⟩
            | fail
          all_goals first
            | (exfalso; omega)
            | (exfalso; simp only [Int.toNat_natCast] at *; omega)
            | exact ⟨k + 1, by omega, ⟨[(6, some 6)], ⟨by kernel_rfl, by kernel_rfl, by kernel_rfl, by kernel_rfl, by kernel_rfl, by kernel_rfl, by kernel_rfl⟩, (by repeat' first | (exact hBl) | exact trivial | exact rfl | kernel_rfl | exact Dle.of_eq rfl | exact MLe.of_eq rfl | exact Dle.i (by omega) | exact Dle.i (by simp only [Int.toNat_natCast] at *; omega) | exact Dle.nil | exact Dle.rc Dle.nil | exact Option.some_ne_none _ | exact Or.inl rfl | exact Or.inr trivial | omega | (simp only [Int.toNat_natCast] at *; omega) | (intro _ _ _ _; exact Dle.of_eq rfl) | (intro i j hi hj; (rw [hB]; exact Dle.refl _ _)) | refine And.intro ?_ ?_)⟩, by first | omega | (dsimp only; omega)⟩
            | trace_state
        · have hix : 0 + (((pAll (s.data.toList.take k)).length : Int) - 1).toNat = (pAll (s.data.toList.take k)).length - 1 := by omega
          by_cases h45 : ((pAll (s.data.toList.take k)).getD ((pAll (s.data.toList.take k)).length - 1) 0).toNat = 45
          · have hB : pAll (s.data.toList.take (k + 1)) = (pAll (s.data.toList.take k)) := by rw [hst]; exact pStep_same hna (by omega) h45
            have hBl := (congrArg List.length hB).symm
            clear ha hna hb1 hb2
            repeat' first
              | (refine codeW_cond rfl ?_; first | (refine condW_dec ?_ ?_ <;> intro _ <;> try (exfalso; omega)) | refine condW_not ?_ | (refine condW_bool ?_ ?_ <;> intro _ <;> try (exfalso; omega)))
              | (refine facW_intro ?_; intro _)
              | refine Or.inl ?_
              | ((conv => whnf); first | (refine condW_dec ?_ ?_ <;> intro _ <;> try (exfalso; omega)) | refine condW_not ?_ | (refine condW_bool ?_ ?_ <;> intro _ <;> try (exfalso; omega)) | (refine nbC_t (fun _ => ?_) ?_) | (refine nbC_f ?_ (fun _ => ?_)))
              | refine And.intro (by first | omega | (simp only [Int.toNat_natCast] at *; omega) | (simp only [Nat.reduceAdd, Int.cast_ofNat_Int, true_and, and_true]; omega)  | kernel_rfl) ?_
              | refine RegW.run ?_
              | refine ⟨_, hin, ?_⟩
              | refine ⟨_, hdg, ?_⟩
              | fail
            all_goals first
              | (exfalso; omega)
              | (exfalso; simp only [Int.toNat_natCast] at *; omega)
              | (exfalso; rename_i h; rw [hix] at h; omega)
              | exact ⟨k + 1, by omega, ⟨[(6, some 6)], ⟨by kernel_rfl, by kernel_rfl, by kernel_rfl, by kernel_rfl, by kernel_rfl, by kernel_rfl, by kernel_rfl⟩, (by repeat' first | (exact hBl) | exact trivial | exact rfl | kernel_rfl | exact Dle.of_eq rfl | exact MLe.of_eq rfl | exact Dle.i (by omega) | exact Dle.i (by simp only [Int.toNat_natCast] at *; omega) | exact Dle.nil | exact Dle.rc Dle.nil | exact Option.some_ne_none _ | exact Or.inl rfl | exact Or.inr trivial | omega | (simp only [Int.toNat_natCast] at *; omega) | (intro _ _ _ _; exact Dle.of_eq rfl) | (intro i j hi hj; (rw [hB]; exact Dle.refl _ _)) | refine And.intro ?_ ?_)⟩, by first | omega | (dsimp only; omega)⟩
              | trace_state
          · have hA := hrow [45] (by rw [hst]; exact pStep_dash hna (by omega) h45) rfl
            clear ha hna hb1 hb2
            repeat' first
              | (refine codeW_cond rfl ?_; first | (refine condW_dec ?_ ?_ <;> intro _ <;> try (exfalso; omega)) | refine condW_not ?_ | (refine condW_bool ?_ ?_ <;> intro _ <;> try (exfalso; omega)))
              | (refine facW_intro ?_; intro _)
              | refine Or.inl ?_
              | ((conv => whnf); first | (refine condW_dec ?_ ?_ <;> intro _ <;> try (exfalso; omega)) | refine condW_not ?_ | (refine condW_bool ?_ ?_ <;> intro _ <;> try (exfalso; omega)) | (refine nbC_t (fun _ => ?_) ?_) | (refine nbC_f ?_ (fun _ => ?_)))
              | refine And.intro (by first | omega | (simp only [Int.toNat_natCast] at *; omega) | (simp only [Nat.reduceAdd, Int.cast_ofNat_Int, true_and, and_true]; omega)  | kernel_rfl) ?_
              | refine RegW.run ?_
              | refine ⟨_, hin, ?_⟩
              | refine ⟨_, hdg, ?_⟩
              | fail
            all_goals first
              | (exfalso; omega)
              | (exfalso; simp only [Int.toNat_natCast] at *; omega)
              | (exfalso; rename_i h; rw [hix] at h; omega)
              | exact ⟨k + 1, by omega, ⟨[(6, some 47)], ⟨by kernel_rfl, by kernel_rfl, by kernel_rfl, by kernel_rfl, by kernel_rfl, by kernel_rfl, by kernel_rfl⟩, (by repeat' first | (exact hA.2) | exact trivial | exact rfl | kernel_rfl | exact Dle.of_eq rfl | exact MLe.of_eq rfl | exact Dle.i (by omega) | exact Dle.i (by simp only [Int.toNat_natCast] at *; omega) | exact Dle.nil | exact Dle.rc Dle.nil | exact Option.some_ne_none _ | exact Or.inl rfl | exact Or.inr trivial | omega | (simp only [Int.toNat_natCast] at *; omega) | (intro _ _ _ _; exact Dle.of_eq rfl) | (intro i j hi hj; exact hA.1 45 rfl i j hi hj) | refine And.intro ?_ ?_)⟩, by first | omega | (dsimp only; omega)⟩
              | trace_state
    · have hl : (bAt s k).toNat = (low (bAt s k)).toNat := by unfold low; rw [if_neg hup]
      rw [← hl] at hin hdg
      by_cases ha : aln (low (bAt s k)) = true
      · have hA := hrow [low (bAt s k)] (by rw [hst, pStep_aln ha]) rfl
        have ha' : smallB (low (bAt s k)) = true ∨ digitB (low (bAt s k)) = true := by unfold aln at ha; simpa using ha
        clear ha
        generalize smallB (low (bAt s k)) = b1 at hin ha'
        generalize digitB (low (bAt s k)) = b2 at hdg ha'
        repeat' first
          | (refine codeW_cond rfl ?_; first | (refine condW_dec ?_ ?_ <;> intro _ <;> try (exfalso; omega)) | refine condW_not ?_ | (refine condW_bool ?_ ?_ <;> intro _ <;> try (exfalso; omega)))
          | (refine facW_intro ?_; intro _)
          | refine Or.inl ?_
          | ((conv => whnf); first | (refine condW_dec ?_ ?_ <;> intro _ <;> try (exfalso; omega)) | refine condW_not ?_ | (refine condW_bool ?_ ?_ <;> intro _ <;> try (exfalso; omega)) | (refine nbC_t (fun _ => ?_) ?_) | (refine nbC_f ?_ (fun _ => ?_)))
          | refine And.intro (by first | omega | (simp only [Int.toNat_natCast] at *; omega) | (simp only [Nat.reduceAdd, Int.cast_ofNat_Int, true_and, and_true]; omega)  | kernel_rfl) ?_
          | refine RegW.run ?_
          | refine ⟨_, hin, ?_⟩
          | refine ⟨_, hdg, ?_⟩
          | fail
        all_goals first
          | (exfalso; revert ha'; subst_vars; decide)
          | (exfalso; omega)
          | (exfalso; simp only [Int.toNat_natCast] at *; omega)
          | exact ⟨k + 1, by omega, ⟨[(6, some 32)], ⟨by kernel_rfl, by kernel_rfl, by kernel_rfl, by kernel_rfl, by kernel_rfl, by kernel_rfl, by kernel_rfl⟩, (by repeat' first | (exact hA.2) | exact trivial | exact rfl | kernel_rfl | exact Dle.of_eq rfl | exact MLe.of_eq rfl | exact Dle.i (by omega) | exact Dle.i (by simp only [Int.toNat_natCast] at *; omega) | exact Dle.nil | exact Dle.rc Dle.nil | exact Option.some_ne_none _ | exact Or.inl rfl | exact Or.inr trivial | omega | (simp only [Int.toNat_natCast] at *; omega) | (intro _ _ _ _; exact Dle.of_eq rfl) | (intro i j hi hj; exact hA.1 _ (congrArg Int.ofNat hl) i j hi hj) | refine And.intro ?_ ?_)⟩, by first | omega | (dsimp only; omega)⟩
          | trace_state
      · have hna : aln (low (bAt s k)) = false := by simpa using ha
        have hb1 : smallB (low (bAt s k)) = false := by unfold aln at hna; simp only [Bool.or_eq_false_iff] at hna; exact hna.1
        have hb2 : digitB (low (bAt s k)) = false := by unfold aln at hna; simp only [Bool.or_eq_false_iff] at hna; exact hna.2
        rw [hb1] at hin
        rw [hb2] at hdg
        by_cases h0 : (pAll (s.data.toList.take k)).length = 0
        · have hB : pAll (s.data.toList.take (k + 1)) = (pAll (s.data.toList.take k)) := by rw [hst]; exact pStep_nil hna h0
          have hBl := (congrArg List.length hB).symm
          clear ha hna hb1 hb2
          repeat' first
            | (refine codeW_cond rfl ?_; first | (refine condW_dec ?_ ?_ <;> intro _ <;> try (exfalso; omega)) | refine condW_not ?_ | (refine condW_bool ?_ ?_ <;> intro _ <;> try (exfalso; omega)))
            | (refine facW_intro ?_; intro _)
            | refine Or.inl ?_
            | ((conv => whnf); first | (refine condW_dec ?_ ?_ <;> intro _ <;> try (exfalso; omega)) | refine condW_not ?_ | (refine condW_bool ?_ ?_ <;> intro _ <;> try (exfalso; omega)) | (refine nbC_t (fun _ => ?_) ?_) | (refine nbC_f ?_ (fun _ => ?_)))
            | refine And.intro (by first | omega | (simp only [Int.toNat_natCast] at *; omega) | (simp only [Nat.reduceAdd, Int.cast_ofNat_Int, true_and, and_true]; omega)  | kernel_rfl) ?_
            | refine RegW.run ?_
            | refine ⟨_, hin, ?_⟩
            | refine ⟨_, hdg, ?_⟩
            | fail
          all_goals first
            | (exfalso; omega)
            | (exfalso; simp only [Int.toNat_natCast] at *; omega)
            | exact ⟨k + 1, by omega, ⟨[(6, some 6)], ⟨by kernel_rfl, by kernel_rfl, by kernel_rfl, by kernel_rfl, by kernel_rfl, by kernel_rfl, by kernel_rfl⟩, (by repeat' first | (exact hBl) | exact trivial | exact rfl | kernel_rfl | exact Dle.of_eq rfl | exact MLe.of_eq rfl | exact Dle.i (by omega) | exact Dle.i (by simp only [Int.toNat_natCast] at *; omega) | exact Dle.nil | exact Dle.rc Dle.nil | exact Option.some_ne_none _ | exact Or.inl rfl | exact Or.inr trivial | omega | (simp only [Int.toNat_natCast] at *; omega) | (intro _ _ _ _; exact Dle.of_eq rfl) | (intro i j hi hj; (rw [hB]; exact Dle.refl _ _)) | refine And.intro ?_ ?_)⟩, by first | omega | (dsimp only; omega)⟩
            | trace_state
        · have hix : 0 + (((pAll (s.data.toList.take k)).length : Int) - 1).toNat = (pAll (s.data.toList.take k)).length - 1 := by omega
          by_cases h45 : ((pAll (s.data.toList.take k)).getD ((pAll (s.data.toList.take k)).length - 1) 0).toNat = 45
          · have hB : pAll (s.data.toList.take (k + 1)) = (pAll (s.data.toList.take k)) := by rw [hst]; exact pStep_same hna (by omega) h45
            have hBl := (congrArg List.length hB).symm
            clear ha hna hb1 hb2
            repeat' first
              | (refine codeW_cond rfl ?_; first | (refine condW_dec ?_ ?_ <;> intro _ <;> try (exfalso; omega)) | refine condW_not ?_ | (refine condW_bool ?_ ?_ <;> intro _ <;> try (exfalso; omega)))
              | (refine facW_intro ?_; intro _)
              | refine Or.inl ?_
              | ((conv => whnf); first | (refine condW_dec ?_ ?_ <;> intro _ <;> try (exfalso; omega)) | refine condW_not ?_ | (refine condW_bool ?_ ?_ <;> intro _ <;> try (exfalso; omega)) | (refine nbC_t (fun _ => ?_) ?_) | (refine nbC_f ?_ (fun _ => ?_)))
              | refine And.intro (by first | omega | (simp only [Int.toNat_natCast] at *; omega) | (simp only [Nat.reduceAdd, Int.cast_ofNat_Int, true_and, and_true]; omega)  | kernel_rfl) ?_
              | refine RegW.run ?_
              | refine ⟨_, hin, ?_⟩
              | refine ⟨_, hdg, ?_⟩
              | fail
            all_goals first
              | (exfalso; omega)
              | (exfalso; simp only [Int.toNat_natCast] at *; omega)
              | (exfalso; rename_i h; rw [hix] at h; omega)
              | exact ⟨k + 1, by omega, ⟨[(6, some 6)], ⟨by kernel_rfl, by kernel_rfl, by kernel_rfl, by kernel_rfl, by kernel_rfl, by kernel_rfl, by kernel_rfl⟩, (by repeat' first | (exact hBl) | exact trivial | exact rfl | kernel_rfl | exact Dle.of_eq rfl | exact MLe.of_eq rfl | exact Dle.i (by omega) | exact Dle.i (by simp only [Int.toNat_natCast] at *; omega) | exact Dle.nil | exact Dle.rc Dle.nil | exact Option.some_ne_none _ | exact Or.inl rfl | exact Or.inr trivial | omega | (simp only [Int.toNat_natCast] at *; omega) | (intro _ _ _ _; exact Dle.of_eq rfl) | (intro i j hi hj; (rw [hB]; exact Dle.refl _ _)) | refine And.intro ?_ ?_)⟩, by first | omega | (dsimp only; omega)⟩
              | trace_state
          · have hA := hrow [45] (by rw [hst]; exact pStep_dash hna (by omega) h45) rfl
            clear ha hna hb1 hb2
            repeat' first
              | (refine codeW_cond rfl ?_; first | (refine condW_dec ?_ ?_ <;> intro _ <;> try (exfalso; omega)) | refine condW_not ?_ | (refine condW_bool ?_ ?_ <;> intro _ <;> try (exfalso; omega)))
              | (refine facW_intro ?_; intro _)
              | refine Or.inl ?_
              | ((conv => whnf); first | (refine condW_dec ?_ ?_ <;> intro _ <;> try (exfalso; omega)) | refine condW_not ?_ | (refine condW_bool ?_ ?_ <;> intro _ <;> try (exfalso; omega)) | (refine nbC_t (fun _ => ?_) ?_) | (refine nbC_f ?_ (fun _ => ?_)))
              | refine And.intro (by first | omega | (simp only [Int.toNat_natCast] at *; omega) | (simp only [Nat.reduceAdd, Int.cast_ofNat_Int, true_and, and_true]; omega)  | kernel_rfl) ?_
              | refine RegW.run ?_
              | refine ⟨_, hin, ?_⟩
              | refine ⟨_, hdg, ?_⟩
              | fail
            all_goals first
              | (exfalso; omega)
              | (exfalso; simp only [Int.toNat_natCast] at *; omega)
              | (exfalso; rename_i h; rw [hix] at h; omega)
              | exact ⟨k + 1, by omega, ⟨[(6, some 47)], ⟨by kernel_rfl, by kernel_rfl, by kernel_rfl, by kernel_rfl, by kernel_rfl, by kernel_rfl, by kernel_rfl⟩, (by repeat' first | (exact hA.2) | exact trivial | exact rfl | kernel_rfl | exact Dle.of_eq rfl | exact MLe.of_eq rfl | exact Dle.i (by omega) | exact Dle.i (by simp only [Int.toNat_natCast] at *; omega) | exact Dle.nil | exact Dle.rc Dle.nil | exact Option.some_ne_none _ | exact Or.inl rfl | exact Or.inr trivial | omega | (simp only [Int.toNat_natCast] at *; omega) | (intro _ _ _ _; exact Dle.of_eq rfl) | (intro i j hi hj; exact hA.1 45 rfl i j hi hj) | refine And.intro ?_ ?_)⟩, by first | omega | (dsimp only; omega)⟩
              | trace_state
  · obtain rfl : k = s.size := by omega
    have hall : s.data.toList.take s.size = s.data.toList := List.take_of_length_le (by simp)
    have hts := trimSuf_sp E (mkS ((min ((pAll (s.data.toList.take s.size)).length : Int) 40).toNat - Int.toNat 0) fun i => (pAll (s.data.toList.take s.size)).getD i 0) ⟨#[45]⟩
    have hr : cutS (mkS ((min ((pAll (s.data.toList.take s.size)).length : Int) 40).toNat - Int.toNat 0) fun i => (pAll (s.data.toList.take s.size)).getD i 0) ⟨#[45]⟩ = ⟨(slug s.data.toList).toArray⟩ := by
      rw [mkS_take (pAll (s.data.toList.take s.size)) _ (by show (min ((pAll (s.data.toList.take s.size)).length : Int) 40).toNat - 0 = min (pAll (s.data.toList.take s.size)).length 40; omega), cutS_one, hall]
      rfl
    rw [hr] at hts
    generalize (⟨(slug s.data.toList).toArray⟩ : ByteArray) = r at hts ⊢
    repeat' first
      | (refine ⟨fun i => (pAll (s.data.toList.take s.size)).getD i 0, fun i hi => Dle.refl _ _, ?_⟩)
      | (refine codeW_cond rfl ?_; first | (refine condW_dec ?_ ?_ <;> intro _ <;> try (exfalso; omega)) | refine condW_not ?_ | (refine condW_bool ?_ ?_ <;> intro _ <;> try (exfalso; omega)))
      | (refine facW_intro ?_; intro _)
      | refine Or.inl ?_
      | ((conv => whnf); first | (refine condW_dec ?_ ?_ <;> intro _ <;> try (exfalso; omega)) | refine condW_not ?_ | (refine condW_bool ?_ ?_ <;> intro _ <;> try (exfalso; omega)) | (refine nbC_t (fun _ => ?_) ?_) | (refine nbC_f ?_ (fun _ => ?_)))
      | refine And.intro (by first | omega | (simp only [Int.toNat_natCast] at *; omega) | (simp only [Nat.reduceAdd, Int.cast_ofNat_Int, true_and, and_true]; omega)  | kernel_rfl) ?_
      | refine RegW.run ?_
      | refine ⟨_, hts, ?_⟩
      | fail
    all_goals first
      | exact Dle.refl _ _
      | trace_state
end
end tp
end Go.Proofs.YtiaibkbflmamgaaGreatDoor
