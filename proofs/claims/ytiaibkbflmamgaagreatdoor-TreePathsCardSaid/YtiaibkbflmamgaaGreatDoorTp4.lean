/-
  Slugs: the reference's walk.
-/
import Derived.Test.YtiaibkbflmamgaaGreatDoorTp5
namespace Go.Proofs.YtiaibkbflmamgaaGreatDoor
open Go.RowKit
set_option linter.unusedVariables false
set_option linter.unusedSimpArgs false
namespace tp
open pn
theorem rAll_snoc (l : List UInt8) (b : UInt8) : rAll (l ++ [b]) = rStep (rAll l) b := by unfold rAll; rw [List.foldl_append]; rfl
theorem rAll_len (l : List UInt8) : (rAll l).1.length ≤ l.length := by
  have h1 := (both_all l).1
  have h2 := pAll_len l
  rw [h1, List.length_append] at h2
  omega
theorem rStep_no {p : List UInt8 × Bool} {b : UInt8} (h : ¬ aln (low b) = true) : rStep p b = (p.1, true) := by unfold rStep; rw [if_neg h]
theorem rStep_dash {p : List UInt8 × Bool} {b : UInt8} (h : aln (low b) = true) (h2 : p.2 = true) (h3 : p.1 ≠ []) : rStep p b = (p.1 ++ [45] ++ [low b], false) := by unfold rStep; rw [if_pos h, if_pos ⟨h2, h3⟩]
theorem rStep_yes {p : List UInt8 × Bool} {b : UInt8} (h : aln (low b) = true) (h2 : ¬ (p.2 = true ∧ p.1 ≠ [])) : rStep p b = (p.1 ++ [low b], false) := by unfold rStep; rw [if_pos h, if_neg h2, List.append_nil]
theorem aln_num (c : UInt8) : aln c = true ↔ (97 ≤ (c.toNat : Int) ∧ (c.toNat : Int) ≤ 122) ∨ (48 ≤ (c.toNat : Int) ∧ (c.toNat : Int) ≤ 57) := by
  unfold aln smallB digitB
  simp
  omega
theorem bs_ne (l : List UInt8) : bs l = ⟨#[]⟩ ↔ l = [] := by
  constructor
  · intro h
    have := congrArg ByteArray.size h
    rw [bs_size] at this
    exact List.eq_nil_of_length_eq_zero this
  · intro h
    rw [h]
    rfl
theorem mkS_one (c : UInt8) : mkS 1 (fun _ => c) = bs [c] := rfl
section
variable (E : Env)
set_option maxRecDepth 100000
set_option maxHeartbeats 8000000 in
theorem slugR_sp (s : ByteArray) (hs : s.size ≤ 140737488351232) : Sp (cx Tryz.prog mixed tyT_ok E) 11 [dS s] (dS ⟨(slug s.data.toList).toArray⟩) := by
  refine Sp.body Tryz.func11 (by kernel_rfl) rfl (by kernel_rfl) (by kernel_rfl) (by kernel_rfl) ?_
  repeat' first
    | (refine codeW_cond rfl ?_; first | (refine condW_dec ?_ ?_ <;> intro _ <;> try (exfalso; omega)) | refine condW_not ?_ | (refine condW_bool ?_ ?_ <;> intro _ <;> try (exfalso; omega)))
    | (refine facW_intro ?_; intro _)
    | refine Or.inl ?_
    | ((conv => whnf); first | (refine condW_dec ?_ ?_ <;> intro _ <;> try (exfalso; omega)) | refine condW_not ?_ | (refine condW_bool ?_ ?_ <;> intro _ <;> try (exfalso; omega)) | (refine nbC_t (fun _ => ?_) ?_) | (refine nbC_f ?_ (fun _ => ?_)))
    | refine And.intro (by first | omega | (simp only [Int.toNat_natCast] at *; omega) | (simp only [Nat.reduceAdd, Int.cast_ofNat_Int, true_and, and_true]; omega)  | kernel_rfl) ?_
    | refine RegW.run ?_
    | fail
  refine ⟨Nat, fun k => [(5, i64 k), (3, dS (bs (rAll (s.data.toList.take k)).1)), (4, dB (rAll (s.data.toList.take k)).2)], fun k => [], [], fun k => [], fun k => k ≤ s.size, fun k => s.size - k, ⟨0, by omega, ⟨[], ⟨by kernel_rfl, by kernel_rfl, by kernel_rfl, by kernel_rfl, by kernel_rfl, by kernel_rfl, by kernel_rfl⟩, (by repeat' first | exact trivial | exact rfl | kernel_rfl | exact Dle.of_eq rfl | exact MLe.of_eq rfl | exact Dle.i (by omega) | exact Dle.i (by simp only [Int.toNat_natCast] at *; omega) | exact Dle.nil | exact Dle.rc Dle.nil | exact Option.some_ne_none _ | exact Or.inl rfl | exact Or.inr trivial | omega | (simp only [Int.toNat_natCast] at *; omega) | (intro _ _ _ _; exact Dle.of_eq rfl) | refine And.intro ?_ ?_)⟩⟩, fun k hk => ?_⟩
  have hk2 : k ≤ s.size := hk
  have hrl := rAll_len (s.data.toList.take k)
  have hrs := bs_size (rAll (s.data.toList.take k)).1
  have htl : (s.data.toList.take k).length ≤ k := by rw [List.length_take]; exact Nat.min_le_left _ _
  by_cases hlt : k < s.size
  · have hst : rAll (s.data.toList.take (k + 1)) = rStep (rAll (s.data.toList.take k)) (bAt s k) := by rw [take_byte hlt, rAll_snoc]
    have hn := aln_num (low (bAt s ((k : Int)).toNat))
    have hne := bs_ne (rAll (s.data.toList.take k)).1
    have hcv : ∀ (n : Int), n = (low (bAt s k)).toNat → ∀ i, i < Int.toNat 1 → Dle (cx Tryz.prog mixed tyT_ok E) (([.v (.int .u8 n)] : List DD).getD (i * 1 + 0) .opq) (.v (.int .u8 (low (bAt s k)).toNat)) := by
      intro n hn i hi
      obtain rfl : i = 0 := by have : i < 1 := hi; omega
      rw [hn]
      exact Dle.refl _ _
    have hz1 : (mkS (Int.toNat 1) fun _ => low (bAt s k)).size = 1 := rfl
    have hz2 : (⟨#[45]⟩ : ByteArray).size = 1 := rfl
    have hz3 : (bs (rAll (s.data.toList.take k)).1 ++ ⟨#[45]⟩).size = (rAll (s.data.toList.take k)).1.length + 1 := by rw [ByteArray.size_append, hrs]; rfl
    have hz7 : (mkS 1 fun _ => low (bAt s k)).size = 1 := rfl
    by_cases hup : 65 ≤ (bAt s ((k : Int)).toNat).toNat ∧ (bAt s ((k : Int)).toNat).toNat ≤ 90
    · have hl := low_up hup
      rw [← hl] at hn
      by_cases ha : aln (low (bAt s k)) = true
      · have hnn := hn.1 ha
        clear hn
        by_cases hg1 : (rAll (s.data.toList.take k)).2 = true
        · by_cases hg2 : (rAll (s.data.toList.take k)).1 = []
          · have hB := hst.trans (rStep_yes ha (fun h => h.2 hg2))
            have hA : bs (rAll (s.data.toList.take k)).1 ++ (mkS (Int.toNat 1) fun _ => low (bAt s k)) = bs (rAll (s.data.toList.take (k + 1))).1 := by rw [hB]; show bs (rAll (s.data.toList.take k)).1 ++ bs [low (bAt s k)] = _; rw [bs_app]
            have hF : false = (rAll (s.data.toList.take (k + 1))).2 := by rw [hB]
            clear hB hst
            repeat' first
              | (refine ⟨fun _ => low (bAt s k), hcv _ hl, ?_⟩)
              | (refine codeW_cond rfl ?_; first | (refine condW_dec ?_ ?_ <;> intro _ <;> try (exfalso; first | omega | (rename_i h; rw [hg1] at h; exact absurd h (by decide)) | (rename_i h; exact hg2 ((bs_ne _).1 h)) | (rename_i h; exact h ((bs_ne _).2 hg2)) | (rename_i h; exact h hg1))) | refine condW_not ?_ | (refine condW_bool ?_ ?_ <;> intro _ <;> try (exfalso; first | omega | (rename_i h; rw [hg1] at h; exact absurd h (by decide)) | (rename_i h; exact hg2 ((bs_ne _).1 h)) | (rename_i h; exact h ((bs_ne _).2 hg2)) | (rename_i h; exact h hg1))))
              | (refine facW_intro ?_; intro _)
              | refine Or.inl ?_
              | ((conv => whnf); first | (refine condW_dec ?_ ?_ <;> intro _ <;> try (exfalso; first | omega | (rename_i h; rw [hg1] at h; exact absurd h (by decide)) | (rename_i h; exact hg2 ((bs_ne _).1 h)) | (rename_i h; exact h ((bs_ne _).2 hg2)) | (rename_i h; exact h hg1))) | refine condW_not ?_ | (refine condW_bool ?_ ?_ <;> intro _ <;> try (exfalso; first | omega | (rename_i h; rw [hg1] at h; exact absurd h (by decide)) | (rename_i h; exact hg2 ((bs_ne _).1 h)) | (rename_i h; exact h ((bs_ne _).2 hg2)) | (rename_i h; exact h hg1))) | (refine nbC_t (fun _ => ?_) ?_) | (refine nbC_f ?_ (fun _ => ?_)))
              | refine And.intro (by first | omega | (simp only [Int.toNat_natCast] at *; omega) | (simp only [Nat.reduceAdd, Int.cast_ofNat_Int, true_and, and_true]; omega)  | kernel_rfl) ?_
              | refine RegW.run ?_
              | fail
            all_goals first
              | (exfalso; omega)
              | (exfalso; first | (rename_i h; rw [hg1] at h; exact absurd h (by decide)) | (rename_i h; exact hg2 ((bs_ne _).1 h)) | (rename_i h; exact h ((bs_ne _).2 hg2)) | (rename_i h; exact h hg1))
              | exact ⟨k + 1, by omega, ⟨[], ⟨by kernel_rfl, by kernel_rfl, by kernel_rfl, by kernel_rfl, by kernel_rfl, by kernel_rfl, by kernel_rfl⟩, (by repeat' first | (first | exact Dle.s hA | exact Dle.bo hF) | exact trivial | exact rfl | kernel_rfl | exact Dle.of_eq rfl | exact MLe.of_eq rfl | exact Dle.i (by omega) | exact Dle.i (by simp only [Int.toNat_natCast] at *; omega) | exact Dle.nil | exact Dle.rc Dle.nil | exact Option.some_ne_none _ | exact Or.inl rfl | exact Or.inr trivial | omega | (simp only [Int.toNat_natCast] at *; omega) | (intro _ _ _ _; exact Dle.of_eq rfl) | refine And.intro ?_ ?_)⟩, by first | omega | (dsimp only; omega)⟩
              | trace_state
          · have hB := hst.trans (rStep_dash ha hg1 hg2)
            have hA : bs (rAll (s.data.toList.take k)).1 ++ ⟨#[45]⟩ ++ (mkS (Int.toNat 1) fun _ => low (bAt s k)) = bs (rAll (s.data.toList.take (k + 1))).1 := by rw [hB]; show bs (rAll (s.data.toList.take k)).1 ++ bs [45] ++ bs [low (bAt s k)] = _; rw [bs_app, bs_app]
            have hF : false = (rAll (s.data.toList.take (k + 1))).2 := by rw [hB]
            clear hB hst
            repeat' first
              | (refine ⟨fun _ => low (bAt s k), hcv _ hl, ?_⟩)
              | (refine codeW_cond rfl ?_; first | (refine condW_dec ?_ ?_ <;> intro _ <;> try (exfalso; first | omega | (rename_i h; rw [hg1] at h; exact absurd h (by decide)) | (rename_i h; exact hg2 ((bs_ne _).1 h)) | (rename_i h; exact h ((bs_ne _).2 hg2)) | (rename_i h; exact h hg1))) | refine condW_not ?_ | (refine condW_bool ?_ ?_ <;> intro _ <;> try (exfalso; first | omega | (rename_i h; rw [hg1] at h; exact absurd h (by decide)) | (rename_i h; exact hg2 ((bs_ne _).1 h)) | (rename_i h; exact h ((bs_ne _).2 hg2)) | (rename_i h; exact h hg1))))
              | (refine facW_intro ?_; intro _)
              | refine Or.inl ?_
              | ((conv => whnf); first | (refine condW_dec ?_ ?_ <;> intro _ <;> try (exfalso; first | omega | (rename_i h; rw [hg1] at h; exact absurd h (by decide)) | (rename_i h; exact hg2 ((bs_ne _).1 h)) | (rename_i h; exact h ((bs_ne _).2 hg2)) | (rename_i h; exact h hg1))) | refine condW_not ?_ | (refine condW_bool ?_ ?_ <;> intro _ <;> try (exfalso; first | omega | (rename_i h; rw [hg1] at h; exact absurd h (by decide)) | (rename_i h; exact hg2 ((bs_ne _).1 h)) | (rename_i h; exact h ((bs_ne _).2 hg2)) | (rename_i h; exact h hg1))) | (refine nbC_t (fun _ => ?_) ?_) | (refine nbC_f ?_ (fun _ => ?_)))
              | refine And.intro (by first | omega | (simp only [Int.toNat_natCast] at *; omega) | (simp only [Nat.reduceAdd, Int.cast_ofNat_Int, true_and, and_true]; omega)  | kernel_rfl) ?_
              | refine RegW.run ?_
              | fail
            all_goals first
              | (exfalso; omega)
              | (exfalso; first | (rename_i h; rw [hg1] at h; exact absurd h (by decide)) | (rename_i h; exact hg2 ((bs_ne _).1 h)) | (rename_i h; exact h ((bs_ne _).2 hg2)) | (rename_i h; exact h hg1))
              | exact ⟨k + 1, by omega, ⟨[], ⟨by kernel_rfl, by kernel_rfl, by kernel_rfl, by kernel_rfl, by kernel_rfl, by kernel_rfl, by kernel_rfl⟩, (by repeat' first | (first | exact Dle.s hA | exact Dle.bo hF) | exact trivial | exact rfl | kernel_rfl | exact Dle.of_eq rfl | exact MLe.of_eq rfl | exact Dle.i (by omega) | exact Dle.i (by simp only [Int.toNat_natCast] at *; omega) | exact Dle.nil | exact Dle.rc Dle.nil | exact Option.some_ne_none _ | exact Or.inl rfl | exact Or.inr trivial | omega | (simp only [Int.toNat_natCast] at *; omega) | (intro _ _ _ _; exact Dle.of_eq rfl) | refine And.intro ?_ ?_)⟩, by first | omega | (dsimp only; omega)⟩
              | trace_state
        · have hg1 : (rAll (s.data.toList.take k)).2 = false := by simpa using hg1
          have hB := hst.trans (rStep_yes ha (fun h => by rw [hg1] at h; exact absurd h.1 (by decide)))
          have hA : bs (rAll (s.data.toList.take k)).1 ++ (mkS (Int.toNat 1) fun _ => low (bAt s k)) = bs (rAll (s.data.toList.take (k + 1))).1 := by rw [hB]; show bs (rAll (s.data.toList.take k)).1 ++ bs [low (bAt s k)] = _; rw [bs_app]
          have hF : false = (rAll (s.data.toList.take (k + 1))).2 := by rw [hB]
          clear hB hst
          repeat' first
            | (refine ⟨fun _ => low (bAt s k), hcv _ hl, ?_⟩)
            | (refine codeW_cond rfl ?_; first | (refine condW_dec ?_ ?_ <;> intro _ <;> try (exfalso; first | omega | (rename_i h; rw [hg1] at h; exact absurd h (by decide)))) | refine condW_not ?_ | (refine condW_bool ?_ ?_ <;> intro _ <;> try (exfalso; first | omega | (rename_i h; rw [hg1] at h; exact absurd h (by decide)))))
            | (refine facW_intro ?_; intro _)
            | refine Or.inl ?_
            | ((conv => whnf); first | (refine condW_dec ?_ ?_ <;> intro _ <;> try (exfalso; first | omega | (rename_i h; rw [hg1] at h; exact absurd h (by decide)))) | refine condW_not ?_ | (refine condW_bool ?_ ?_ <;> intro _ <;> try (exfalso; first | omega | (rename_i h; rw [hg1] at h; exact absurd h (by decide)))) | (refine nbC_t (fun _ => ?_) ?_) | (refine nbC_f ?_ (fun _ => ?_)))
            | refine And.intro (by first | omega | (simp only [Int.toNat_natCast] at *; omega) | (simp only [Nat.reduceAdd, Int.cast_ofNat_Int, true_and, and_true]; omega)  | kernel_rfl) ?_
            | refine RegW.run ?_
            | fail
          all_goals first
            | (exfalso; omega)
            | (exfalso; first | (rename_i h; rw [hg1] at h; exact absurd h (by decide)))
            | exact ⟨k + 1, by omega, ⟨[], ⟨by kernel_rfl, by kernel_rfl, by kernel_rfl, by kernel_rfl, by kernel_rfl, by kernel_rfl, by kernel_rfl⟩, (by repeat' first | (first | exact Dle.s hA | exact Dle.bo hF) | exact trivial | exact rfl | kernel_rfl | exact Dle.of_eq rfl | exact MLe.of_eq rfl | exact Dle.i (by omega) | exact Dle.i (by simp only [Int.toNat_natCast] at *; omega) | exact Dle.nil | exact Dle.rc Dle.nil | exact Option.some_ne_none _ | exact Or.inl rfl | exact Or.inr trivial | omega | (simp only [Int.toNat_natCast] at *; omega) | (intro _ _ _ _; exact Dle.of_eq rfl) | refine And.intro ?_ ?_)⟩, by first | omega | (dsimp only; omega)⟩
            | trace_state
      · have hnn := mt hn.2 ha
        clear hn
        have hB := hst.trans (rStep_no ha)
        have hA : bs (rAll (s.data.toList.take k)).1 = bs (rAll (s.data.toList.take (k + 1))).1 := by rw [hB]
        have hF : true = (rAll (s.data.toList.take (k + 1))).2 := by rw [hB]
        clear hB hst
        repeat' first
          | (refine codeW_cond rfl ?_; first | (refine condW_dec ?_ ?_ <;> intro _ <;> try (exfalso; omega)) | refine condW_not ?_ | (refine condW_bool ?_ ?_ <;> intro _ <;> try (exfalso; omega)))
          | (refine facW_intro ?_; intro _)
          | refine Or.inl ?_
          | ((conv => whnf); first | (refine condW_dec ?_ ?_ <;> intro _ <;> try (exfalso; omega)) | refine condW_not ?_ | (refine condW_bool ?_ ?_ <;> intro _ <;> try (exfalso; omega)) | (refine nbC_t (fun _ => ?_) ?_) | (refine nbC_f ?_ (fun _ => ?_)))
          | refine And.intro (by first | omega | (simp only [Int.toNat_natCast] at *; omega) | (simp only [Nat.reduceAdd, Int.cast_ofNat_Int, true_and, and_true]; omega)  | kernel_rfl) ?_
          | refine RegW.run ?_
          | fail
        all_goals first
          | (exfalso; omega)
          | exact ⟨k + 1, by omega, ⟨[], ⟨by kernel_rfl, by kernel_rfl, by kernel_rfl, by kernel_rfl, by kernel_rfl, by kernel_rfl, by kernel_rfl⟩, (by repeat' first | (first | exact Dle.s hA | exact Dle.bo hF) | exact trivial | exact rfl | kernel_rfl | exact Dle.of_eq rfl | exact MLe.of_eq rfl | exact Dle.i (by omega) | exact Dle.i (by simp only [Int.toNat_natCast] at *; omega) | exact Dle.nil | exact Dle.rc Dle.nil | exact Option.some_ne_none _ | exact Or.inl rfl | exact Or.inr trivial | omega | (simp only [Int.toNat_natCast] at *; omega) | (intro _ _ _ _; exact Dle.of_eq rfl) | refine And.intro ?_ ?_)⟩, by first | omega | (dsimp only; omega)⟩
          | trace_state
    · have hl0 : (low (bAt s ((k : Int)).toNat)).toNat = (bAt s ((k : Int)).toNat).toNat := by unfold low; rw [if_neg hup]
      have hl : ((bAt s ((k : Int)).toNat).toNat : Int) = ((low (bAt s ((k : Int)).toNat)).toNat : Int) := by rw [hl0]
      rw [← hl] at hn
      clear hl0
      by_cases ha : aln (low (bAt s k)) = true
      · have hnn := hn.1 ha
        clear hn
        by_cases hg1 : (rAll (s.data.toList.take k)).2 = true
        · by_cases hg2 : (rAll (s.data.toList.take k)).1 = []
          · have hB := hst.trans (rStep_yes ha (fun h => h.2 hg2))
            have hA : bs (rAll (s.data.toList.take k)).1 ++ (mkS (Int.toNat 1) fun _ => low (bAt s k)) = bs (rAll (s.data.toList.take (k + 1))).1 := by rw [hB]; show bs (rAll (s.data.toList.take k)).1 ++ bs [low (bAt s k)] = _; rw [bs_app]
            have hF : false = (rAll (s.data.toList.take (k + 1))).2 := by rw [hB]
            clear hB hst
            repeat' first
              | (refine ⟨fun _ => low (bAt s k), hcv _ hl, ?_⟩)
              | (refine codeW_cond rfl ?_; first | (refine condW_dec ?_ ?_ <;> intro _ <;> try (exfalso; first | omega | (rename_i h; rw [hg1] at h; exact absurd h (by decide)) | (rename_i h; exact hg2 ((bs_ne _).1 h)) | (rename_i h; exact h ((bs_ne _).2 hg2)) | (rename_i h; exact h hg1))) | refine condW_not ?_ | (refine condW_bool ?_ ?_ <;> intro _ <;> try (exfalso; first | omega | (rename_i h; rw [hg1] at h; exact absurd h (by decide)) | (rename_i h; exact hg2 ((bs_ne _).1 h)) | (rename_i h; exact h ((bs_ne _).2 hg2)) | (rename_i h; exact h hg1))))
              | (refine facW_intro ?_; intro _)
              | refine Or.inl ?_
              | ((conv => whnf); first | (refine condW_dec ?_ ?_ <;> intro _ <;> try (exfalso; first | omega | (rename_i h; rw [hg1] at h; exact absurd h (by decide)) | (rename_i h; exact hg2 ((bs_ne _).1 h)) | (rename_i h; exact h ((bs_ne _).2 hg2)) | (rename_i h; exact h hg1))) | refine condW_not ?_ | (refine condW_bool ?_ ?_ <;> intro _ <;> try (exfalso; first | omega | (rename_i h; rw [hg1] at h; exact absurd h (by decide)) | (rename_i h; exact hg2 ((bs_ne _).1 h)) | (rename_i h; exact h ((bs_ne _).2 hg2)) | (rename_i h; exact h hg1))) | (refine nbC_t (fun _ => ?_) ?_) | (refine nbC_f ?_ (fun _ => ?_)))
              | refine And.intro (by first | omega | (simp only [Int.toNat_natCast] at *; omega) | (simp only [Nat.reduceAdd, Int.cast_ofNat_Int, true_and, and_true]; omega)  | kernel_rfl) ?_
              | refine RegW.run ?_
              | fail
            all_goals first
              | (exfalso; omega)
              | (exfalso; first | (rename_i h; rw [hg1] at h; exact absurd h (by decide)) | (rename_i h; exact hg2 ((bs_ne _).1 h)) | (rename_i h; exact h ((bs_ne _).2 hg2)) | (rename_i h; exact h hg1))
              | exact ⟨k + 1, by omega, ⟨[], ⟨by kernel_rfl, by kernel_rfl, by kernel_rfl, by kernel_rfl, by kernel_rfl, by kernel_rfl, by kernel_rfl⟩, (by repeat' first | (first | exact Dle.s hA | exact Dle.bo hF) | exact trivial | exact rfl | kernel_rfl | exact Dle.of_eq rfl | exact MLe.of_eq rfl | exact Dle.i (by omega) | exact Dle.i (by simp only [Int.toNat_natCast] at *; omega) | exact Dle.nil | exact Dle.rc Dle.nil | exact Option.some_ne_none _ | exact Or.inl rfl | exact Or.inr trivial | omega | (simp only [Int.toNat_natCast] at *; omega) | (intro _ _ _ _; exact Dle.of_eq rfl) | refine And.intro ?_ ?_)⟩, by first | omega | (dsimp only; omega)⟩
              | trace_state
          · have hB := hst.trans (rStep_dash ha hg1 hg2)
            have hA : bs (rAll (s.data.toList.take k)).1 ++ ⟨#[45]⟩ ++ (mkS (Int.toNat 1) fun _ => low (bAt s k)) = bs (rAll (s.data.toList.take (k + 1))).1 := by rw [hB]; show bs (rAll (s.data.toList.take k)).1 ++ bs [45] ++ bs [low (bAt s k)] = _; rw [bs_app, bs_app]
            have hF : false = (rAll (s.data.toList.take (k + 1))).2 := by rw [hB]
            clear hB hst
            repeat' first
              | (refine ⟨fun _ => low (bAt s k), hcv _ hl, ?_⟩)
              | (refine codeW_cond rfl ?_; first | (refine condW_dec ?_ ?_ <;> intro _ <;> try (exfalso; first | omega | (rename_i h; rw [hg1] at h; exact absurd h (by decide)) | (rename_i h; exact hg2 ((bs_ne _).1 h)) | (rename_i h; exact h ((bs_ne _).2 hg2)) | (rename_i h; exact h hg1))) | refine condW_not ?_ | (refine condW_bool ?_ ?_ <;> intro _ <;> try (exfalso; first | omega | (rename_i h; rw [hg1] at h; exact absurd h (by decide)) | (rename_i h; exact hg2 ((bs_ne _).1 h)) | (rename_i h; exact h ((bs_ne _).2 hg2)) | (rename_i h; exact h hg1))))
              | (refine facW_intro ?_; intro _)
              | refine Or.inl ?_
              | ((conv => whnf); first | (refine condW_dec ?_ ?_ <;> intro _ <;> try (exfalso; first | omega | (rename_i h; rw [hg1] at h; exact absurd h (by decide)) | (rename_i h; exact hg2 ((bs_ne _).1 h)) | (rename_i h; exact h ((bs_ne _).2 hg2)) | (rename_i h; exact h hg1))) | refine condW_not ?_ | (refine condW_bool ?_ ?_ <;> intro _ <;> try (exfalso; first | omega | (rename_i h; rw [hg1] at h; exact absurd h (by decide)) | (rename_i h; exact hg2 ((bs_ne _).1 h)) | (rename_i h; exact h ((bs_ne _).2 hg2)) | (rename_i h; exact h hg1))) | (refine nbC_t (fun _ => ?_) ?_) | (refine nbC_f ?_ (fun _ => ?_)))
              | refine And.intro (by first | omega | (simp only [Int.toNat_natCast] at *; omega) | (simp only [Nat.reduceAdd, Int.cast_ofNat_Int, true_and, and_true]; omega)  | kernel_rfl) ?_
              | refine RegW.run ?_
              | fail
            all_goals first
              | (exfalso; omega)
              | (exfalso; first | (rename_i h; rw [hg1] at h; exact absurd h (by decide)) | (rename_i h; exact hg2 ((bs_ne _).1 h)) | (rename_i h; exact h ((bs_ne _).2 hg2)) | (rename_i h; exact h hg1))
              | exact ⟨k + 1, by omega, ⟨[], ⟨by kernel_rfl, by kernel_rfl, by kernel_rfl, by kernel_rfl, by kernel_rfl, by kernel_rfl, by kernel_rfl⟩, (by repeat' first | (first | exact Dle.s hA | exact Dle.bo hF) | exact trivial | exact rfl | kernel_rfl | exact Dle.of_eq rfl | exact MLe.of_eq rfl | exact Dle.i (by omega) | exact Dle.i (by simp only [Int.toNat_natCast] at *; omega) | exact Dle.nil | exact Dle.rc Dle.nil | exact Option.some_ne_none _ | exact Or.inl rfl | exact Or.inr trivial | omega | (simp only [Int.toNat_natCast] at *; omega) | (intro _ _ _ _; exact Dle.of_eq rfl) | refine And.intro ?_ ?_)⟩, by first | omega | (dsimp only; omega)⟩
              | trace_state
        · have hg1 : (rAll (s.data.toList.take k)).2 = false := by simpa using hg1
          have hB := hst.trans (rStep_yes ha (fun h => by rw [hg1] at h; exact absurd h.1 (by decide)))
          have hA : bs (rAll (s.data.toList.take k)).1 ++ (mkS (Int.toNat 1) fun _ => low (bAt s k)) = bs (rAll (s.data.toList.take (k + 1))).1 := by rw [hB]; show bs (rAll (s.data.toList.take k)).1 ++ bs [low (bAt s k)] = _; rw [bs_app]
          have hF : false = (rAll (s.data.toList.take (k + 1))).2 := by rw [hB]
          clear hB hst
          repeat' first
            | (refine ⟨fun _ => low (bAt s k), hcv _ hl, ?_⟩)
            | (refine codeW_cond rfl ?_; first | (refine condW_dec ?_ ?_ <;> intro _ <;> try (exfalso; first | omega | (rename_i h; rw [hg1] at h; exact absurd h (by decide)))) | refine condW_not ?_ | (refine condW_bool ?_ ?_ <;> intro _ <;> try (exfalso; first | omega | (rename_i h; rw [hg1] at h; exact absurd h (by decide)))))
            | (refine facW_intro ?_; intro _)
            | refine Or.inl ?_
            | ((conv => whnf); first | (refine condW_dec ?_ ?_ <;> intro _ <;> try (exfalso; first | omega | (rename_i h; rw [hg1] at h; exact absurd h (by decide)))) | refine condW_not ?_ | (refine condW_bool ?_ ?_ <;> intro _ <;> try (exfalso; first | omega | (rename_i h; rw [hg1] at h; exact absurd h (by decide)))) | (refine nbC_t (fun _ => ?_) ?_) | (refine nbC_f ?_ (fun _ => ?_)))
            | refine And.intro (by first | omega | (simp only [Int.toNat_natCast] at *; omega) | (simp only [Nat.reduceAdd, Int.cast_ofNat_Int, true_and, and_true]; omega)  | kernel_rfl) ?_
            | refine RegW.run ?_
            | fail
          all_goals first
            | (exfalso; omega)
            | (exfalso; first | (rename_i h; rw [hg1] at h; exact absurd h (by decide)))
            | exact ⟨k + 1, by omega, ⟨[], ⟨by kernel_rfl, by kernel_rfl, by kernel_rfl, by kernel_rfl, by kernel_rfl, by kernel_rfl, by kernel_rfl⟩, (by repeat' first | (first | exact Dle.s hA | exact Dle.bo hF) | exact trivial | exact rfl | kernel_rfl | exact Dle.of_eq rfl | exact MLe.of_eq rfl | exact Dle.i (by omega) | exact Dle.i (by simp only [Int.toNat_natCast] at *; omega) | exact Dle.nil | exact Dle.rc Dle.nil | exact Option.some_ne_none _ | exact Or.inl rfl | exact Or.inr trivial | omega | (simp only [Int.toNat_natCast] at *; omega) | (intro _ _ _ _; exact Dle.of_eq rfl) | refine And.intro ?_ ?_)⟩, by first | omega | (dsimp only; omega)⟩
            | trace_state
      · have hnn := mt hn.2 ha
        clear hn
        have hB := hst.trans (rStep_no ha)
        have hA : bs (rAll (s.data.toList.take k)).1 = bs (rAll (s.data.toList.take (k + 1))).1 := by rw [hB]
        have hF : true = (rAll (s.data.toList.take (k + 1))).2 := by rw [hB]
        clear hB hst
        repeat' first
          | (refine codeW_cond rfl ?_; first | (refine condW_dec ?_ ?_ <;> intro _ <;> try (exfalso; omega)) | refine condW_not ?_ | (refine condW_bool ?_ ?_ <;> intro _ <;> try (exfalso; omega)))
          | (refine facW_intro ?_; intro _)
          | refine Or.inl ?_
          | ((conv => whnf); first | (refine condW_dec ?_ ?_ <;> intro _ <;> try (exfalso; omega)) | refine condW_not ?_ | (refine condW_bool ?_ ?_ <;> intro _ <;> try (exfalso; omega)) | (refine nbC_t (fun _ => ?_) ?_) | (refine nbC_f ?_ (fun _ => ?_)))
          | refine And.intro (by first | omega | (simp only [Int.toNat_natCast] at *; omega) | (simp only [Nat.reduceAdd, Int.cast_ofNat_Int, true_and, and_true]; omega)  | kernel_rfl) ?_
          | refine RegW.run ?_
          | fail
        all_goals first
          | (exfalso; omega)
          | exact ⟨k + 1, by omega, ⟨[], ⟨by kernel_rfl, by kernel_rfl, by kernel_rfl, by kernel_rfl, by kernel_rfl, by kernel_rfl, by kernel_rfl⟩, (by repeat' first | (first | exact Dle.s hA | exact Dle.bo hF) | exact trivial | exact rfl | kernel_rfl | exact Dle.of_eq rfl | exact MLe.of_eq rfl | exact Dle.i (by omega) | exact Dle.i (by simp only [Int.toNat_natCast] at *; omega) | exact Dle.nil | exact Dle.rc Dle.nil | exact Option.some_ne_none _ | exact Or.inl rfl | exact Or.inr trivial | omega | (simp only [Int.toNat_natCast] at *; omega) | (intro _ _ _ _; exact Dle.of_eq rfl) | refine And.intro ?_ ?_)⟩, by first | omega | (dsimp only; omega)⟩
          | trace_state
  · obtain rfl : k = s.size := by omega
    have hall : s.data.toList.take s.size = s.data.toList := List.take_of_length_le (by simp)
    have hex : (bs (rAll (s.data.toList.take s.size)).1).extract (Int.toNat 0) (min ((bs (rAll (s.data.toList.take s.size)).1).size : Int) 40).toNat = bs ((rAll s.data.toList).1.take 40) := by
      rw [hall] at hrs ⊢
      apply toL_ext
      rw [ext_L]
      show ((rAll s.data.toList).1.take (min ((bs (rAll s.data.toList).1).size : Int) 40).toNat).drop 0 = (rAll s.data.toList).1.take 40
      rw [List.drop_zero, hrs]
      rcases Nat.lt_or_ge (rAll s.data.toList).1.length 40 with h | h
      · rw [show (min ((rAll s.data.toList).1.length : Int) 40).toNat = (rAll s.data.toList).1.length by omega, List.take_length, List.take_of_length_le (by omega)]
      · rw [show (min ((rAll s.data.toList).1.length : Int) 40).toNat = 40 by omega]
    have hts := trimRight_sp E ((rAll s.data.toList).1.take 40) (by rw [List.length_take]; omega)
    rw [slug_ref, ← hex] at hts
    generalize (slug s.data.toList) = r at hts ⊢
    have hr : bs r = ⟨r.toArray⟩ := rfl
    rw [hr] at hts
    repeat' first
      | (refine codeW_cond rfl ?_; first | (refine condW_dec ?_ ?_ <;> intro _ <;> try (exfalso; omega)) | refine condW_not ?_ | (refine condW_bool ?_ ?_ <;> intro _ <;> try (exfalso; omega)))
      | (refine facW_intro ?_; intro _)
      | refine Or.inl ?_
      | ((conv => whnf); first | (refine condW_dec ?_ ?_ <;> intro _ <;> try (exfalso; omega)) | refine condW_not ?_ | (refine condW_bool ?_ ?_ <;> intro _ <;> try (exfalso; omega)) | (refine nbC_t (fun _ => ?_) ?_) | (refine nbC_f ?_ (fun _ => ?_)))
      | refine And.intro (by first | omega | (simp only [Int.toNat_natCast] at *; omega) | (simp only [Nat.reduceAdd, Int.cast_ofNat_Int, true_and, and_true]; omega)  | kernel_rfl) ?_
      | refine RegW.run ?_
      | refine ⟨_, hts, ?_⟩
      | fail
    all_goals first
      | exact Dle.refl _ _
      | trace_state
end
end tp
end Go.Proofs.YtiaibkbflmamgaaGreatDoor
