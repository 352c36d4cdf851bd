/-
  Sources of a tree: CheckSources. Sources of a tree: SourcesFault. Sources of a tree: the law's walk (two structs with a struct inside are compared: raw).
-/
import Derived.Test.YtdpbgpkjlbdbfaaGreatDoorTsG
import Derived.WalkKit
import Derived.Lib.Walk
namespace Go.Proofs.YtdpbgpkjlbdbfaaGreatDoor
open Go.RowKit
set_option linter.unusedVariables false
set_option linter.unusedSimpArgs false
namespace ts
open rs
section
variable (E : Env)
set_option maxRecDepth 100000
set_option maxHeartbeats 8000000 in
theorem t_check_sp (hML : ∀ w, E.G w → ML w) (l : List Src) (ls : List ByteArray) (hw : (l.map Src.wt).sum ≤ 100000000) : Sp (cx Tryz.prog mixed tyT_ok E) 11 [encSrcs l, encStrs ls] (encFlt (sourcesE l ls)) := by
  have c1 := languagesFit_sp E ls
  obtain ⟨r, hr⟩ : ∃ r, r = sourcesE l ls := ⟨_, rfl⟩
  rw [← hr]
  unfold sourcesE at hr
  cases hL : langOK ls
  · rw [hL] at c1 hr
    have hr := hr.trans (if_pos rfl)
    subst hr
    refine Sp.body Tryz.func11 (by kernel_rfl) rfl (by kernel_rfl) (by kernel_rfl) (by kernel_rfl) ?_
    repeat' first
      | (refine codeW_cond rfl ?_; first | (refine condW_dec ?_ ?_ <;> intro _ <;> try (exfalso; omega)) | refine condW_not ?_ | (refine condW_bool ?_ ?_ <;> intro _ <;> try (exfalso; omega)))
      | (refine facW_intro ?_; intro _)
      | refine Or.inl ?_
      | ((conv => whnf); first | (refine condW_dec ?_ ?_ <;> intro _ <;> try (exfalso; omega)) | refine condW_not ?_ | (refine condW_bool ?_ ?_ <;> intro _ <;> try (exfalso; omega)) | (refine nbC_t (fun _ => ?_) ?_) | (refine nbC_f ?_ (fun _ => ?_)))
      | refine And.intro (by first | omega | (simp only [Int.toNat_natCast] at *; omega) | (simp only [Nat.reduceAdd, Int.cast_ofNat_Int, true_and, and_true]; omega) | kernel_rfl) ?_
      | refine RegW.run ?_
      | refine ⟨_, c1, ?_⟩
      | fail
    all_goals first
      | exact Dle.refl _ _
      | (exfalso; rename_i h; cases h; done)
      | trace_state
  rw [hL] at c1 hr
  have hr := hr.trans (if_neg (by decide))
  have hlen : 1 ≤ ls.length ∧ ls.length ≤ 8 := by
    unfold langOK at hL
    simp only [Bool.and_eq_true, decide_eq_true_eq] at hL
    exact hL.1
  by_cases h120 : 120 < l.length
  · have hr := hr.trans (if_pos h120)
    subst hr
    refine Sp.body Tryz.func11 (by kernel_rfl) rfl (by kernel_rfl) (by kernel_rfl) (by kernel_rfl) ?_
    repeat' first
      | (refine codeW_cond rfl ?_; first | (refine condW_dec ?_ ?_ <;> intro _ <;> try (exfalso; omega)) | refine condW_not ?_ | (refine condW_bool ?_ ?_ <;> intro _ <;> try (exfalso; omega)))
      | (refine facW_intro ?_; intro _)
      | refine Or.inl ?_
      | ((conv => whnf); first | (refine condW_dec ?_ ?_ <;> intro _ <;> try (exfalso; omega)) | refine condW_not ?_ | (refine condW_bool ?_ ?_ <;> intro _ <;> try (exfalso; omega)) | (refine nbC_t (fun _ => ?_) ?_) | (refine nbC_f ?_ (fun _ => ?_)))
      | refine And.intro (by first | omega | (simp only [Int.toNat_natCast] at *; omega) | (simp only [Nat.reduceAdd, Int.cast_ofNat_Int, true_and, and_true]; omega) | kernel_rfl) ?_
      | refine RegW.run ?_
      | refine ⟨_, c1, ?_⟩
      | fail
    all_goals first
      | exact Dle.refl _ _
      | (exfalso; rename_i h; cases h; done)
      | (exfalso; omega)
      | trace_state
  have hr := hr.trans (if_neg h120)
  refine Sp.body Tryz.func11 (by kernel_rfl) rfl (by kernel_rfl) (by kernel_rfl) (by kernel_rfl) ?_
  repeat' first
    | (refine codeW_cond rfl ?_; first | (refine condW_dec ?_ ?_ <;> intro _ <;> try (exfalso; omega)) | refine condW_not ?_ | (refine condW_bool ?_ ?_ <;> intro _ <;> try (exfalso; omega)))
    | (refine facW_intro ?_; intro _)
    | refine Or.inl ?_
    | ((conv => whnf); first | (refine condW_dec ?_ ?_ <;> intro _ <;> try (exfalso; omega)) | refine condW_not ?_ | (refine condW_bool ?_ ?_ <;> intro _ <;> try (exfalso; omega)) | (refine nbC_t (fun _ => ?_) ?_) | (refine nbC_f ?_ (fun _ => ?_)))
    | refine And.intro (by first | omega | (simp only [Int.toNat_natCast] at *; omega) | (simp only [Nat.reduceAdd, Int.cast_ofNat_Int, true_and, and_true]; omega) | kernel_rfl) ?_
    | refine RegW.run ?_
    | refine ⟨_, c1, ?_⟩
    | fail
  all_goals try (exfalso; omega)
  refine ⟨Nat, fun k => [(18, i64 k)], fun k => [], [4], fun k => [], fun k => k ≤ l.length ∧ r = firstE l ls k, fun k => l.length - k, ⟨0, ⟨by omega, hr⟩, ⟨[], ⟨by kernel_rfl, by kernel_rfl, by kernel_rfl, by kernel_rfl, by kernel_rfl, by kernel_rfl, by kernel_rfl⟩, (by repeat' first | exact trivial | exact rfl | kernel_rfl | exact Dle.of_eq rfl | exact MLe.of_eq rfl | exact Dle.i (by omega) | exact Dle.i (by simp only [Int.toNat_natCast] at *; omega) | exact Dle.nil | exact Dle.rc Dle.nil | exact Option.some_ne_none _ | exact Or.inl rfl | exact Or.inr trivial | omega | (simp only [Int.toNat_natCast] at *; omega) | (intro _ _ _ _; exact Dle.of_eq rfl) | refine And.intro ?_ ?_)⟩⟩, fun k hk => ?_⟩
  obtain ⟨hk, hK⟩ := hk
  by_cases hlt : k < l.length
  · have hwk := src_at hw hlt
    have ek : ((k : Int) - 1).toNat = k - 1 := by omega
    have d1 := t_isPath_sp E hML (l.getD ((k : Int)).toNat default).path
    have d2 : pathB (l.getD ((k : Int)).toNat default).path = true → Sp (cx Tryz.prog mixed tyT_ok E) 37 [dS (l.getD ((k : Int)).toNat default).path] (i64 (cntB (l.getD ((k : Int)).toNat default).path + 1)) := fun h => parts_sp E _ (by have := path_size h; have := cntB_le (l.getD ((k : Int)).toNat default).path; omega)
    have d3 : pathB (l.getD ((k : Int)).toNat default).path = true → Sp (cx Tryz.prog mixed tyT_ok E) 38 [encSrc (l.getD ((k : Int)).toNat default), encStrs ls] (i64 (srcE (l.getD ((k : Int)).toNat default) ls)) := fun h => t_source_sp E hML _ ls h hlen.1 hlen.2 hwk
    obtain ⟨o, ho⟩ : ∃ o, o = oneE l k ls := ⟨_, rfl⟩
    have hnext : o = 0 → r = firstE l ls (k + 1) := fun h => by rw [hK, firstE_next hlt (by rw [← ho]; exact h)]
    have hat : ∀ q, o = q → q ≠ 0 → r = ⟨(l.getD ((k : Int)).toNat default).path, q⟩ := fun q h h0 => by rw [hK, firstE_at hlt (by rw [← ho, h]; exact h0), ← ho, h]; rfl
    have ho : o = if pathB (l.getD ((k : Int)).toNat default).path = false then 3
      else if 12 < cntB (l.getD ((k : Int)).toNat default).path + 1 then 13
      else if 0 < k ∧ (strLt (l.getD ((k : Int)).toNat default).path (l.getD ((k : Int) - 1).toNat default).path || decide ((l.getD ((k : Int)).toNat default).path = (l.getD ((k : Int) - 1).toNat default).path)) = true then 5
      else srcE (l.getD ((k : Int)).toNat default) ls := by rw [ho, ek]; rfl
    generalize srcE (l.getD ((k : Int)).toNat default) ls = se at d3 ho
    generalize pathB (l.getD ((k : Int)).toNat default).path = pp at d1 d2 d3 ho
    generalize cntB (l.getD ((k : Int)).toNat default).path = cn at d2 ho
    clear hK hr
    cases pp
    · have h2 : o = 3 := ho.trans (if_pos rfl)
      have h3 := hat 3 h2 (by decide)
      clear ho hat hnext
      subst h3
      repeat' first
        | (refine codeW_cond rfl ?_; first | (refine condW_dec ?_ ?_ <;> intro _ <;> try (exfalso; omega)) | refine condW_not ?_ | (refine condW_bool ?_ ?_ <;> intro _ <;> try (exfalso; omega)))
        | (refine facW_intro ?_; intro _)
        | refine Or.inl ?_
        | ((conv => whnf); first | (refine condW_dec ?_ ?_ <;> intro _ <;> try (exfalso; omega)) | refine condW_not ?_ | (refine condW_bool ?_ ?_ <;> intro _ <;> try (exfalso; omega)) | (refine nbC_t (fun _ => ?_) ?_) | (refine nbC_f ?_ (fun _ => ?_)))
        | refine And.intro (by first | omega | (simp only [Int.toNat_natCast] at *; omega) | (simp only [Nat.reduceAdd, Int.cast_ofNat_Int, true_and, and_true]; omega) | kernel_rfl) ?_
        | refine RegW.run ?_
        | refine ⟨_, d1, ?_⟩
        | fail
      all_goals first
        | (exfalso; rename_i h; cases h; done)
        | exact Dle.refl _ _
        | trace_state
    have ho := ho.trans (if_neg (by decide))
    by_cases h12 : 12 < cn + 1
    · have h2 : o = 13 := ho.trans (if_pos h12)
      have h3 := hat 13 h2 (by decide)
      clear ho hat hnext
      subst h3
      repeat' first
        | (refine codeW_cond rfl ?_; first | (refine condW_dec ?_ ?_ <;> intro _ <;> try (exfalso; omega)) | refine condW_not ?_ | (refine condW_bool ?_ ?_ <;> intro _ <;> try (exfalso; omega)))
        | (refine facW_intro ?_; intro _)
        | refine Or.inl ?_
        | ((conv => whnf); first | (refine condW_dec ?_ ?_ <;> intro _ <;> try (exfalso; omega)) | refine condW_not ?_ | (refine condW_bool ?_ ?_ <;> intro _ <;> try (exfalso; omega)) | (refine nbC_t (fun _ => ?_) ?_) | (refine nbC_f ?_ (fun _ => ?_)))
        | refine And.intro (by first | omega | (simp only [Int.toNat_natCast] at *; omega) | (simp only [Nat.reduceAdd, Int.cast_ofNat_Int, true_and, and_true]; omega) | kernel_rfl) ?_
        | refine RegW.run ?_
        | refine ⟨_, d1, ?_⟩
        | refine ⟨_, d2 rfl, ?_⟩
        | fail
      all_goals first
        | (exfalso; rename_i h; cases h; done)
        | (exfalso; omega)
        | exact Dle.refl _ _
        | trace_state
    have ho := ho.trans (if_neg h12)
    by_cases h5 : 0 < k ∧ (strLt (l.getD ((k : Int)).toNat default).path (l.getD ((k : Int) - 1).toNat default).path || decide ((l.getD ((k : Int)).toNat default).path = (l.getD ((k : Int) - 1).toNat default).path)) = true
    · have h2 : o = 5 := ho.trans (if_pos h5)
      have h3 := hat 5 h2 (by decide)
      clear ho hat hnext
      subst h3
      obtain ⟨h51, h52⟩ := h5
      repeat' first
        | (refine codeW_cond rfl ?_; first | (refine condW_dec ?_ ?_ <;> intro _ <;> try (exfalso; omega)) | refine condW_not ?_ | (refine condW_bool ?_ ?_ <;> intro _ <;> try (exfalso; omega)))
        | (refine facW_intro ?_; intro _)
        | refine Or.inl ?_
        | ((conv => whnf); first | (refine condW_dec ?_ ?_ <;> intro _ <;> try (exfalso; omega)) | refine condW_not ?_ | (refine condW_bool ?_ ?_ <;> intro _ <;> try (exfalso; omega)) | (refine nbC_t (fun _ => ?_) ?_) | (refine nbC_f ?_ (fun _ => ?_)))
        | refine And.intro (by first | omega | (simp only [Int.toNat_natCast] at *; omega) | (simp only [Nat.reduceAdd, Int.cast_ofNat_Int, true_and, and_true]; omega) | kernel_rfl) ?_
        | refine RegW.run ?_
        | refine ⟨_, d1, ?_⟩
        | refine ⟨_, d2 rfl, ?_⟩
        | fail
      all_goals first
        | (exfalso; omega)
        | (exfalso; rename_i h; rw [h52] at h; cases h; done)
        | exact Dle.refl _ _
        | trace_state
    have h2 : o = se := ho.trans (if_neg h5)
    by_cases h0 : se = 0
    · have h3 := hnext (h2.trans h0)
      clear ho hat hnext
      subst h0
      repeat' first
        | (refine codeW_cond rfl ?_; first | (refine condW_dec ?_ ?_ <;> intro _ <;> try (exfalso; first | omega | rename_i h; exact h5 ⟨by omega, h⟩)) | refine condW_not ?_ | (refine condW_bool ?_ ?_ <;> intro _ <;> try (exfalso; first | omega | rename_i h; exact h5 ⟨by omega, h⟩)))
        | (refine facW_intro ?_; intro _)
        | refine Or.inl ?_
        | ((conv => whnf); first | (refine condW_dec ?_ ?_ <;> intro _ <;> try (exfalso; first | omega | rename_i h; exact h5 ⟨by omega, h⟩)) | refine condW_not ?_ | (refine condW_bool ?_ ?_ <;> intro _ <;> try (exfalso; first | omega | rename_i h; exact h5 ⟨by omega, h⟩)) | (refine nbC_t (fun _ => ?_) ?_) | (refine nbC_f ?_ (fun _ => ?_)))
        | refine And.intro (by first | omega | (simp only [Int.toNat_natCast] at *; omega) | (simp only [Nat.reduceAdd, Int.cast_ofNat_Int, true_and, and_true]; omega) | kernel_rfl) ?_
        | refine RegW.run ?_
        | refine ⟨_, d1, ?_⟩
        | refine ⟨_, d2 rfl, ?_⟩
        | refine ⟨_, d3 rfl, ?_⟩
        | fail
      all_goals first
        | (exfalso; rename_i h; cases h; done)
        | exact ⟨k + 1, ⟨by omega, h3⟩, ⟨[], ⟨by kernel_rfl, by kernel_rfl, by kernel_rfl, by kernel_rfl, by kernel_rfl, by kernel_rfl, by kernel_rfl⟩, (by repeat' first | exact trivial | exact rfl | kernel_rfl | exact Dle.of_eq rfl | exact MLe.of_eq rfl | exact Dle.i (by omega) | exact Dle.i (by simp only [Int.toNat_natCast] at *; omega) | exact Dle.nil | exact Dle.rc Dle.nil | exact Option.some_ne_none _ | exact Or.inl rfl | exact Or.inr trivial | omega | (simp only [Int.toNat_natCast] at *; omega) | (intro _ _ _ _; exact Dle.of_eq rfl) | refine And.intro ?_ ?_)⟩, by first | omega | (dsimp only; omega)⟩
        | (exfalso; omega)
        | (exfalso; exact h5 ⟨by omega, by assumption⟩)
        | trace_state
    · have h3 := hat se h2 h0
      clear ho hat hnext
      subst h3
      repeat' first
        | (refine codeW_cond rfl ?_; first | (refine condW_dec ?_ ?_ <;> intro _ <;> try (exfalso; first | omega | rename_i h; exact h5 ⟨by omega, h⟩)) | refine condW_not ?_ | (refine condW_bool ?_ ?_ <;> intro _ <;> try (exfalso; first | omega | rename_i h; exact h5 ⟨by omega, h⟩)))
        | (refine facW_intro ?_; intro _)
        | refine Or.inl ?_
        | ((conv => whnf); first | (refine condW_dec ?_ ?_ <;> intro _ <;> try (exfalso; first | omega | rename_i h; exact h5 ⟨by omega, h⟩)) | refine condW_not ?_ | (refine condW_bool ?_ ?_ <;> intro _ <;> try (exfalso; first | omega | rename_i h; exact h5 ⟨by omega, h⟩)) | (refine nbC_t (fun _ => ?_) ?_) | (refine nbC_f ?_ (fun _ => ?_)))
        | refine And.intro (by first | omega | (simp only [Int.toNat_natCast] at *; omega) | (simp only [Nat.reduceAdd, Int.cast_ofNat_Int, true_and, and_true]; omega) | kernel_rfl) ?_
        | refine RegW.run ?_
        | refine ⟨_, d1, ?_⟩
        | refine ⟨_, d2 rfl, ?_⟩
        | refine ⟨_, d3 rfl, ?_⟩
        | fail
      all_goals first
        | (exfalso; rename_i h; cases h; done)
        | exact Dle.refl _ _
        | (exfalso; omega)
        | (exfalso; exact h5 ⟨by omega, by assumption⟩)
        | trace_state
  · have hr : r = ⟨⟨#[]⟩, 0⟩ := by rw [hK, firstE_end hlt]
    subst hr
    repeat' first
      | (refine codeW_cond rfl ?_; first | (refine condW_dec ?_ ?_ <;> intro _ <;> try (exfalso; omega)) | refine condW_not ?_ | (refine condW_bool ?_ ?_ <;> intro _ <;> try (exfalso; omega)))
      | (refine facW_intro ?_; intro _)
      | refine Or.inl ?_
      | ((conv => whnf); first | (refine condW_dec ?_ ?_ <;> intro _ <;> try (exfalso; omega)) | refine condW_not ?_ | (refine condW_bool ?_ ?_ <;> intro _ <;> try (exfalso; omega)) | (refine nbC_t (fun _ => ?_) ?_) | (refine nbC_f ?_ (fun _ => ?_)))
      | refine And.intro (by first | omega | (simp only [Int.toNat_natCast] at *; omega) | (simp only [Nat.reduceAdd, Int.cast_ofNat_Int, true_and, and_true]; omega) | kernel_rfl) ?_
      | refine RegW.run ?_
      | fail
    all_goals first
      | exact Dle.refl _ _
      | (exfalso; omega)
      | trace_state
end
end ts
end Go.Proofs.YtdpbgpkjlbdbfaaGreatDoor
namespace Go.Proofs.YtdpbgpkjlbdbfaaGreatDoor
open Go.RowKit
set_option linter.unusedVariables false
set_option linter.unusedSimpArgs false
namespace ts
open rs
section
variable (E : Env)
set_option maxRecDepth 100000
set_option maxHeartbeats 8000000 in
theorem r_check_sp (hML : ∀ w, E.G w → ML w) (b : Nat) (E0 : Env) (hg : ∀ w, E0.G w → ∀ g, Rep view E0.MG w b0 (kindsGv b g) (.pointer (some ⟨g, 0, none⟩))) (hE : E = kEnv E0 b hg) (hm : ∃ es, GMap (cx Tryz.prog mixed tyT_ok E) .str b es ∧ ∀ k, Look es (.string k) (i64 0) (decide (0 ≤ kindK k), i64 (kindN k))) (l : List Src) (ls : List ByteArray) (hw : (l.map Src.wt).sum ≤ 100000000) : Sp (cx Tryz.prog mixed tyT_ok E) 12 [encSrcs l, encStrs ls] (encFlt (sourcesE l ls)) := by
  have c1 := languagesOK_sp E ls
  obtain ⟨r, hr⟩ : ∃ r, r = sourcesE l ls := ⟨_, rfl⟩
  rw [← hr]
  unfold sourcesE at hr
  cases hL : langOK ls
  · rw [hL] at c1 hr
    have hr := hr.trans (if_pos rfl)
    subst hr
    refine Sp.body Tryz.func12 (by kernel_rfl) rfl (by kernel_rfl) (by kernel_rfl) (by kernel_rfl) ?_
    repeat' first
      | (refine codeW_cond rfl ?_; first | (refine condW_dec ?_ ?_ <;> intro _ <;> try (exfalso; omega)) | refine condW_not ?_ | (refine condW_bool ?_ ?_ <;> intro _ <;> try (exfalso; omega)))
      | (refine facW_intro ?_; intro _)
      | refine Or.inl ?_
      | ((conv => whnf); first | (refine condW_dec ?_ ?_ <;> intro _ <;> try (exfalso; omega)) | refine condW_not ?_ | (refine condW_bool ?_ ?_ <;> intro _ <;> try (exfalso; omega)) | (refine nbC_t (fun _ => ?_) ?_) | (refine nbC_f ?_ (fun _ => ?_)))
      | refine And.intro (by first | omega | (simp only [Int.toNat_natCast] at *; omega) | (simp only [Nat.reduceAdd, Int.cast_ofNat_Int, true_and, and_true]; omega) | kernel_rfl) ?_
      | refine RegW.run ?_
      | refine ⟨_, c1, ?_⟩
      | fail
    all_goals first
      | exact Dle.refl _ _
      | (exfalso; rename_i h; cases h; done)
      | trace_state
  rw [hL] at c1 hr
  have hr := hr.trans (if_neg (by decide))
  have hlen : 1 ≤ ls.length ∧ ls.length ≤ 8 := by
    unfold langOK at hL
    simp only [Bool.and_eq_true, decide_eq_true_eq] at hL
    exact hL.1
  by_cases h120 : 120 < l.length
  · have hr := hr.trans (if_pos h120)
    subst hr
    refine Sp.body Tryz.func12 (by kernel_rfl) rfl (by kernel_rfl) (by kernel_rfl) (by kernel_rfl) ?_
    repeat' first
      | (refine codeW_cond rfl ?_; first | (refine condW_dec ?_ ?_ <;> intro _ <;> try (exfalso; omega)) | refine condW_not ?_ | (refine condW_bool ?_ ?_ <;> intro _ <;> try (exfalso; omega)))
      | (refine facW_intro ?_; intro _)
      | refine Or.inl ?_
      | ((conv => whnf); first | (refine condW_dec ?_ ?_ <;> intro _ <;> try (exfalso; omega)) | refine condW_not ?_ | (refine condW_bool ?_ ?_ <;> intro _ <;> try (exfalso; omega)) | (refine nbC_t (fun _ => ?_) ?_) | (refine nbC_f ?_ (fun _ => ?_)))
      | refine And.intro (by first | omega | (simp only [Int.toNat_natCast] at *; omega) | (simp only [Nat.reduceAdd, Int.cast_ofNat_Int, true_and, and_true]; omega) | kernel_rfl) ?_
      | refine RegW.run ?_
      | refine ⟨_, c1, ?_⟩
      | fail
    all_goals first
      | exact Dle.refl _ _
      | (exfalso; rename_i h; cases h; done)
      | (exfalso; omega)
      | trace_state
  have hr := hr.trans (if_neg h120)
  have d3 := fun (k : Nat) (hlt : k < l.length) => r_source_sp E hML b E0 hg hE hm l ls k (by omega) (by omega) (by omega) hlen.1 hlen.2 (src_at hw hlt)
  clear hm hE
  refine Sp.body Tryz.func12 (by kernel_rfl) rfl (by kernel_rfl) (by kernel_rfl) (by kernel_rfl) ?_
  repeat' first
    | (refine codeW_cond rfl ?_; first | (refine condW_dec ?_ ?_ <;> intro _ <;> try (exfalso; omega)) | refine condW_not ?_ | (refine condW_bool ?_ ?_ <;> intro _ <;> try (exfalso; omega)))
    | (refine facW_intro ?_; intro _)
    | refine Or.inl ?_
    | ((conv => whnf); first | (refine condW_dec ?_ ?_ <;> intro _ <;> try (exfalso; omega)) | refine condW_not ?_ | (refine condW_bool ?_ ?_ <;> intro _ <;> try (exfalso; omega)) | (refine nbC_t (fun _ => ?_) ?_) | (refine nbC_f ?_ (fun _ => ?_)))
    | refine And.intro (by first | omega | (simp only [Int.toNat_natCast] at *; omega) | (simp only [Nat.reduceAdd, Int.cast_ofNat_Int, true_and, and_true]; omega) | kernel_rfl) ?_
    | refine RegW.run ?_
    | refine ⟨_, c1, ?_⟩
    | fail
  all_goals try (exfalso; omega)
  refine ⟨Nat, fun k => [(18, i64 k)], fun k => [], [4], fun k => [], fun k => k ≤ l.length ∧ r = firstE l ls k, fun k => l.length - k, ⟨0, ⟨by omega, hr⟩, ⟨[], ⟨by kernel_rfl, by kernel_rfl, by kernel_rfl, by kernel_rfl, by kernel_rfl, by kernel_rfl, by kernel_rfl⟩, (by repeat' first | exact trivial | exact rfl | kernel_rfl | exact Dle.of_eq rfl | exact MLe.of_eq rfl | exact Dle.i (by omega) | exact Dle.i (by simp only [Int.toNat_natCast] at *; omega) | exact Dle.nil | exact Dle.rc Dle.nil | exact Option.some_ne_none _ | exact Or.inl rfl | exact Or.inr trivial | omega | (simp only [Int.toNat_natCast] at *; omega) | (intro _ _ _ _; exact Dle.of_eq rfl) | refine And.intro ?_ ?_)⟩⟩, fun k hk => ?_⟩
  obtain ⟨hk, hK⟩ := hk
  by_cases hlt : k < l.length
  · have d3 := d3 k hlt
    obtain ⟨o, ho⟩ : ∃ o, o = oneE l ((k : Int)).toNat ls := ⟨_, rfl⟩
    have ho2 : o = oneE l k ls := ho
    rw [← ho] at d3
    by_cases h0 : o = 0
    · have h3 : r = firstE l ls (k + 1) := by rw [hK, firstE_next hlt (by rw [← ho2]; exact h0)]
      subst h0
      clear hK hr
      repeat' first
        | (refine codeW_cond rfl ?_; first | (refine condW_dec ?_ ?_ <;> intro _ <;> try (exfalso; omega)) | refine condW_not ?_ | (refine condW_bool ?_ ?_ <;> intro _ <;> try (exfalso; omega)))
        | (refine facW_intro ?_; intro _)
        | refine Or.inl ?_
        | ((conv => whnf); first | (refine condW_dec ?_ ?_ <;> intro _ <;> try (exfalso; omega)) | refine condW_not ?_ | (refine condW_bool ?_ ?_ <;> intro _ <;> try (exfalso; omega)) | (refine nbC_t (fun _ => ?_) ?_) | (refine nbC_f ?_ (fun _ => ?_)))
        | refine And.intro (by first | omega | (simp only [Int.toNat_natCast] at *; omega) | (simp only [Nat.reduceAdd, Int.cast_ofNat_Int, true_and, and_true]; omega) | kernel_rfl) ?_
        | refine RegW.run ?_
        | refine ⟨_, d3, ?_⟩
        | fail
      all_goals first
        | exact ⟨k + 1, ⟨by omega, h3⟩, ⟨[], ⟨by kernel_rfl, by kernel_rfl, by kernel_rfl, by kernel_rfl, by kernel_rfl, by kernel_rfl, by kernel_rfl⟩, (by repeat' first | exact trivial | exact rfl | kernel_rfl | exact Dle.of_eq rfl | exact MLe.of_eq rfl | exact Dle.i (by omega) | exact Dle.i (by simp only [Int.toNat_natCast] at *; omega) | exact Dle.nil | exact Dle.rc Dle.nil | exact Option.some_ne_none _ | exact Or.inl rfl | exact Or.inr trivial | omega | (simp only [Int.toNat_natCast] at *; omega) | (intro _ _ _ _; exact Dle.of_eq rfl) | refine And.intro ?_ ?_)⟩, by first | omega | (dsimp only; omega)⟩
        | (exfalso; omega)
        | trace_state
    · have h3 : r = ⟨(l.getD ((k : Int)).toNat default).path, o⟩ := by rw [hK, firstE_at hlt (by rw [← ho2]; exact h0), ← ho2]; rfl
      clear hK hr
      subst h3
      repeat' first
        | (refine codeW_cond rfl ?_; first | (refine condW_dec ?_ ?_ <;> intro _ <;> try (exfalso; omega)) | refine condW_not ?_ | (refine condW_bool ?_ ?_ <;> intro _ <;> try (exfalso; omega)))
        | (refine facW_intro ?_; intro _)
        | refine Or.inl ?_
        | ((conv => whnf); first | (refine condW_dec ?_ ?_ <;> intro _ <;> try (exfalso; omega)) | refine condW_not ?_ | (refine condW_bool ?_ ?_ <;> intro _ <;> try (exfalso; omega)) | (refine nbC_t (fun _ => ?_) ?_) | (refine nbC_f ?_ (fun _ => ?_)))
        | refine And.intro (by first | omega | (simp only [Int.toNat_natCast] at *; omega) | (simp only [Nat.reduceAdd, Int.cast_ofNat_Int, true_and, and_true]; omega) | kernel_rfl) ?_
        | refine RegW.run ?_
        | refine ⟨_, d3, ?_⟩
        | fail
      all_goals first
        | exact Dle.refl _ _
        | (exfalso; omega)
        | trace_state
  · have hr : r = ⟨⟨#[]⟩, 0⟩ := by rw [hK, firstE_end hlt]
    subst hr
    repeat' first
      | (refine codeW_cond rfl ?_; first | (refine condW_dec ?_ ?_ <;> intro _ <;> try (exfalso; omega)) | refine condW_not ?_ | (refine condW_bool ?_ ?_ <;> intro _ <;> try (exfalso; omega)))
      | (refine facW_intro ?_; intro _)
      | refine Or.inl ?_
      | ((conv => whnf); first | (refine condW_dec ?_ ?_ <;> intro _ <;> try (exfalso; omega)) | refine condW_not ?_ | (refine condW_bool ?_ ?_ <;> intro _ <;> try (exfalso; omega)) | (refine nbC_t (fun _ => ?_) ?_) | (refine nbC_f ?_ (fun _ => ?_)))
      | refine And.intro (by first | omega | (simp only [Int.toNat_natCast] at *; omega) | (simp only [Nat.reduceAdd, Int.cast_ofNat_Int, true_and, and_true]; omega) | kernel_rfl) ?_
      | refine RegW.run ?_
      | fail
    all_goals first
      | exact Dle.refl _ _
      | (exfalso; omega)
      | trace_state
end
end ts
end Go.Proofs.YtdpbgpkjlbdbfaaGreatDoor
namespace Go.Proofs.YtdpbgpkjlbdbfaaGreatDoor
open Go.RowKit
set_option linter.unusedVariables false
set_option linter.unusedSimpArgs false
namespace ts
open rs
/-- A fault's value. -/
def fltV (f : Flt) : Value := .agg #[.string f.path, .int .i64 0, .int .i64 0, .int .i64 f.e]
theorem flt_val {M : Nat → Nat → Prop} {w : World} {β : Bt} {f : Flt} {x : Value} (h : Rep view M w β (encFlt f) x) : x = fltV f := by
  cases h with
  | agg hn h1 h =>
    rename_i vs
    have h0 := (h 0 _ rfl).val.1
    have h1 := (h 1 _ rfl).val.1
    have h2 := (h 2 _ rfl).val.1
    have h3 := (h 3 _ rfl).val.1
    have hn : vs.size = 4 := hn
    unfold fltV
    congr 1
    apply Array.ext
    · rw [hn]; rfl
    · intro i q1 q2
      have hi : i < 4 := by omega
      match i, hi with
      | 0, _ => simpa [Array.getD, q1] using h0
      | 1, _ => simpa [Array.getD, q1] using h1
      | 2, _ => simpa [Array.getD, q1] using h2
      | 3, _ => simpa [Array.getD, q1] using h3
section
variable (E : Env)
set_option maxRecDepth 100000
/-- A contract without objects in a raw walk, at the same arguments. -/
theorem sp_at {f : FuncId} {ds : List DD} {d : DD} (h : Sp (cx Tryz.prog mixed tyT_ok E) f ds d) (he : ∀ args w, (callFunc f args).run Tryz.prog w = .ok (.enter f args) w) {M : Nat → Nat → Prop} {β : Bt} (w : World) (vs : Array Value) (hG : E.G w) (hMG : ∀ b o, E.MG b o → M b o) (hM : ∀ b o, M b o → b < w.heap.size) (hl : vs.size = ds.length)
    (hr : ∀ i d, ds[i]? = some d → Rep view M w β d (vs.getD i undef)) :
    Calls Tryz.prog f vs w fun e w' => ∃ x M' β', e = .returned x ∧ Below w.heap.size w w' ∧ Rep view M' w' β' d x := by
  rcases h with h | h
  · refine (h.2 M β w vs hG hMG hM hl hr ⟨(fun l o hm => by cases hm), fun l o l' o' b c c' hm => by cases hm⟩ (fun b ⟨l, o, c, hm, _⟩ => by cases hm)).mono ?_
    rintro e w' ⟨x, M', β', h1, h2, _, _, h5, h6, _⟩
    exact ⟨x, M', β', h1, ⟨h2.os, h2.tape, h2.output, h2.size, fun k hk => h2.block k hk (fun ⟨l, o, c, hm, _⟩ => by cases hm)⟩, h6⟩
  · obtain ⟨x, h1, _⟩ := h M β w vs hl hr
    have h2 := (he vs w).symm.trans h1
    cases h2
set_option maxHeartbeats 4000000 in
theorem treeSources_sp (hML : ∀ w, E.G w → ML w) (b : Nat) (E0 : Env) (hg : ∀ w, E0.G w → ∀ g, Rep view E0.MG w b0 (kindsGv b g) (.pointer (some ⟨g, 0, none⟩))) (hE : E = kEnv E0 b hg) (hm : ∃ es, GMap (cx Tryz.prog mixed tyT_ok E) .str b es ∧ ∀ k, Look es (.string k) (i64 0) (decide (0 ≤ kindK k), i64 (kindN k))) (l : List Src) (ls : List ByteArray) (hw : (l.map Src.wt).sum ≤ 100000000) : Sp (cx Tryz.prog mixed tyT_ok E) 3 [encSrcs l, encStrs ls] (dB true) := by
  have s1 := t_check_sp E hML l ls hw
  have s2 := r_check_sp E hML b E0 hg hE hm l ls hw
  clear hm hE
  generalize sourcesE l ls = q at s1 s2
  refine .inl ⟨⟨_, _, Tryz.func3, by kernel_rfl, rfl⟩, fun M β w vs hG hMG hM hln hr hp hb => ?_⟩
  have key : Calls Tryz.prog 3 vs w fun e w' => e = .returned (.bool true) ∧ Below w.heap.size w w' := by
    have c1 := sp_at E s1 (enters_of Tryz.func11 (by kernel_rfl) rfl) w vs hG hMG hM hln hr
    have c2 := fun (w1 : World) (hb1 : Below w.heap.size w w1) => sp_at E s2 (enters_of Tryz.func12 (by kernel_rfl) rfl) (M := M) (β := β) w1 vs (E.keep w w1 hG (Kp.of (hb1.mono (E.gsz w hG)) _)) hMG (fun b o h => Nat.lt_of_lt_of_le (hM b o h) hb1.size) hln (fun i d hi => (hr i d hi).mono (fun _ _ h => h) (fun b o h => hb1.cell (p := ⟨b, o, none⟩) (hM b o h)))
    obtain ⟨x0, x1, rfl⟩ : ∃ x0 x1, vs = #[x0, x1] := by
      have hln : vs.size = 2 := hln
      refine ⟨vs[0], vs[1], ?_⟩
      apply Array.ext
      · simp [hln]
      · intro i q1 q2
        have hi : i < 2 := by omega
        match i, hi with
        | 0, _ => rfl
        | 1, _ => rfl
    clear hr hln hp hb s1 s2
    go_enter Tryz.func3, Tryz.ntmps3
    go_wp2_with fail
    refine c1.mono ?_
    rintro e w1 ⟨x, M1, β1, rfl, hb1, hx⟩
    obtain rfl := flt_val hx
    go_wp2_with fail
    refine (c2 w1 hb1).mono ?_
    rintro e w2 ⟨y, M2, β2, rfl, hb2, hy⟩
    obtain rfl := flt_val hy
    unfold fltV
    go_wp2
    go_ret
    exact ⟨by simp, hb1.trans (hb2.mono hb1.size)⟩
  refine key.mono ?_
  rintro e w' ⟨rfl, hbw⟩
  exact ⟨_, M, β, rfl, Kp.of hbw _, fun _ _ _ => rfl, fun _ _ h => h, fun b o h => .inl h, .v rfl, ⟨fun l o hm => (by cases hm), fun l o l' o' b c c' hm => (by cases hm)⟩, fun b ⟨l, o, c, hm, _⟩ => (by cases hm)⟩
end
end ts
end Go.Proofs.YtdpbgpkjlbdbfaaGreatDoor
