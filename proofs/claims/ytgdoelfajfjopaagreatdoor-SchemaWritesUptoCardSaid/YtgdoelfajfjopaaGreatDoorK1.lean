/-
  conf.CheckSchema.
-/
import Derived.Test.YtgdoelfajfjopaaGreatDoorK0
namespace Go.Proofs.YtgdoelfajfjopaaGreatDoor
open Go.RowKit
set_option linter.unusedVariables false
set_option linter.unusedSimpArgs false
theorem anyStar_drop {l : List Stp} {k : Nat} (h : k < l.length) : anyStar (l.drop k) = ((l.getD k default).star || anyStar (l.drop (k + 1))) := by
  unfold anyStar
  rw [drop_cons l default k h, List.any_cons]
theorem anyStar_end {l : List Stp} {k : Nat} (h : l.length ≤ k) : anyStar (l.drop k) = false := by rw [List.drop_of_length_le h]; rfl
section
variable (E : Env)
set_option maxRecDepth 100000
theorem hasStar_sp (l : List Stp) : Sp (cx Tryz.prog mixed tyT_ok E) 104 [encSteps l] (dB (anyStar l)) := by
  obtain ⟨r, hr⟩ : ∃ r, r = anyStar (l.drop 0) := ⟨_, rfl⟩
  have e : anyStar l = r := hr.symm
  rw [e]
  refine Sp.body Tryz.func104 (by kernel_rfl) rfl (by kernel_rfl) (by kernel_rfl) (by kernel_rfl) ?_
  repeat' first
    | (refine facW_intro ?_; intro _)
    | refine Or.inl ?_
    | ((conv => whnf); first | (refine condW_dec ?_ ?_ <;> intro _) | refine condW_not ?_ | (refine condW_bool ?_ ?_ <;> intro _) | (refine nbC_t (fun _ => ?_) ?_) | (refine nbC_f ?_ (fun _ => ?_)))
    | refine And.intro (by first | omega | (simp only [Int.toNat_natCast] at *; omega) | (simp only [Nat.reduceAdd, Int.cast_ofNat_Int, true_and, and_true]; omega)  | kernel_rfl) ?_
    | refine RegW.run ?_
    | fail
  refine ⟨Nat, fun k => [(7, i64 k)], fun k => [], [], fun k => [], fun k => k ≤ l.length ∧ r = anyStar (l.drop k), fun k => l.length - k, ⟨0, ⟨by omega, hr⟩, ⟨[], ⟨by kernel_rfl, by kernel_rfl, by kernel_rfl, by kernel_rfl, by kernel_rfl, by kernel_rfl, by kernel_rfl⟩, (by repeat' first | exact trivial | exact rfl | kernel_rfl | exact Dle.of_eq rfl | exact MLe.of_eq rfl | exact Dle.i (by omega) | exact Dle.i (by simp only [Int.toNat_natCast] at *; omega) | exact Dle.nil | exact Dle.rc Dle.nil | exact Option.some_ne_none _ | exact Or.inl rfl | exact Or.inr trivial | omega | (simp only [Int.toNat_natCast] at *; omega) | (intro _ _ _ _; exact Dle.of_eq rfl) | refine And.intro ?_ ?_)⟩⟩, fun k hk => ?_⟩
  obtain ⟨hk, hK⟩ := hk
  by_cases hlt : k < l.length
  · rw [anyStar_drop hlt] at hK
    repeat' first
      | (refine facW_intro ?_; intro _)
      | refine Or.inl ?_
      | ((conv => whnf); first | (refine condW_dec ?_ ?_ <;> intro _ <;> try (exfalso; omega)) | refine condW_not ?_ | (refine condW_bool ?_ ?_ <;> intro _ <;> try (exfalso; omega)) | (refine nbC_t (fun _ => ?_) ?_) | (refine nbC_f ?_ (fun _ => ?_)))
      | refine And.intro (by first | omega | (simp only [Int.toNat_natCast] at *; omega) | (simp only [Nat.reduceAdd, Int.cast_ofNat_Int, true_and, and_true]; omega)  | kernel_rfl) ?_
      | refine RegW.run ?_
      | fail
    all_goals first
      | (rename_i h
         have h : (l.getD k default).star = true := h
         exact Dle.bo (by rw [hK, h]; rfl))
      | (rename_i h
         have h : (l.getD k default).star = false := h
         exact ⟨k + 1, ⟨by omega, by rw [hK, h]; rfl⟩, ⟨[], ⟨by kernel_rfl, by kernel_rfl, by kernel_rfl, by kernel_rfl, by kernel_rfl, by kernel_rfl, by kernel_rfl⟩, (by repeat' first | exact trivial | exact rfl | kernel_rfl | exact Dle.of_eq rfl | exact MLe.of_eq rfl | exact Dle.i (by omega) | exact Dle.i (by simp only [Int.toNat_natCast] at *; omega) | exact Dle.nil | exact Dle.rc Dle.nil | exact Option.some_ne_none _ | exact Or.inl rfl | exact Or.inr trivial | omega | (simp only [Int.toNat_natCast] at *; omega) | (intro _ _ _ _; exact Dle.of_eq rfl) | refine And.intro ?_ ?_)⟩, by first | omega | (dsimp only; omega)⟩)
      | trace_state
  · repeat' first
      | (refine facW_intro ?_; intro _)
      | refine Or.inl ?_
      | ((conv => whnf); first | (refine condW_dec ?_ ?_ <;> intro _ <;> try (exfalso; omega)) | refine condW_not ?_ | (refine condW_bool ?_ ?_ <;> intro _ <;> try (exfalso; omega)) | (refine nbC_t (fun _ => ?_) ?_) | (refine nbC_f ?_ (fun _ => ?_)))
      | refine And.intro (by first | omega | (simp only [Int.toNat_natCast] at *; omega) | (simp only [Nat.reduceAdd, Int.cast_ofNat_Int, true_and, and_true]; omega)  | kernel_rfl) ?_
      | refine RegW.run ?_
      | fail
    exact Dle.bo (by rw [hK, anyStar_end (by omega)])
set_option maxHeartbeats 4000000 in
theorem fieldFault_at (hML : ∀ w, E.G w → ML w) (f : Fd) (es : List (Value × DD)) (dup : Bool) (hw : f.dflt.wt ≤ 100000000) (hs : f.route.size ≤ 1000000000) (hl : Look es (.string f.route) (dB false) (dup, dB dup)) :
    SpH (cx Tryz.prog mixed tyT_ok E) 83 [encF f, .mp 1000000] [(1000000, .map 198 es)] (i64 (fieldE f dup)) [(1000000, .map 198 es)] := by
  obtain ⟨r, hr⟩ : ∃ r, r = fieldE f dup := ⟨_, rfl⟩
  rw [← hr]
  have h1 := steps_sp E hML f.route true hs
  have h2 := check_sp E f.dflt (by have := cnt_le_wt f.dflt; omega)
  have h3 := hasStar_sp E (if routeOk true f.route = true then (partsR f.route).map stepOf else [])
  have hst : routeOk true f.route = true → ¬ f.route = ⟨#[]⟩ → anyStar (if routeOk true f.route = true then (partsR f.route).map stepOf else []) = starB f.route := fun h g => by rw [if_pos h]; exact star_route h g
  have hpn : routeOk true f.route = true → ((if routeOk true f.route = true then (partsR f.route).map stepOf else []).length = 0 ↔ f.route = ⟨#[]⟩) := fun h => by
    rw [if_pos h, List.length_map]
    refine parts_none (fun h4 => ?_)
    rw [routeOk_long h4] at h
    cases h
  unfold fieldE at hr
  generalize (if routeOk true f.route = true then (partsR f.route).map stepOf else []) = steps at h1 h3 hst hpn
  generalize routeOk true f.route = ok at hr h1 hst hpn
  generalize anyStar steps = st at h3 hst
  generalize checkE f.dflt = ce at hr h2
  by_cases hA : fieldA f ok dup = 0
  · rw [if_neg (by rw [hA]; decide)] at hr
    unfold fieldA at hA
    refine SpH.body Tryz.func83 (by kernel_rfl) rfl (by kernel_rfl) (by kernel_rfl) (by kernel_rfl) ?_
    repeat' first
      | (refine facW_intro ?_; intro _)
      | refine Or.inl ?_
      | ((conv => whnf); first | (refine condW_dec ?_ ?_ <;> intro _ <;> try (exfalso; omega)) | refine condW_not ?_ | (refine condW_bool ?_ ?_ <;> intro _ <;> try (exfalso; omega)) | (refine nbC_t (fun _ => ?_) ?_) | (refine nbC_f ?_ (fun _ => ?_)))
      | refine And.intro (by first | omega | (simp only [Int.toNat_natCast] at *; omega) | (simp only [Nat.reduceAdd, Int.cast_ofNat_Int, true_and, and_true]; omega)  | kernel_rfl) ?_
      | refine RegW.run ?_
      | refine ⟨_, h1, ?_⟩
      | refine ⟨_, hl, ?_⟩
      | fail
    all_goals first
      | (exfalso; have h9 := (hpn (by assumption)).1 (by omega); rw [if_pos (.inr h9)] at hA; cases hA; done)
      | (exfalso; clear hr h1 h2 h3 hl hst hpn; grind)
      | skip
    all_goals
      have hok : ok = true := by cases ok
                                 · rw [if_pos (.inl rfl)] at hA; cases hA
                                 · rfl
      have hne : ¬ f.route = ⟨#[]⟩ := fun h => by rw [if_pos (.inr h)] at hA; cases hA
      rw [← hst hok hne] at hr
      refine ⟨Nat, fun k => [(76, i64 k)], fun k => [], [2, 1000000], fun k => [], fun k => k ≤ f.oneOf.length ∧ r = if oneE f.oneOf k ≠ 0 then oneE f.oneOf k else fieldT f ce st, fun k => f.oneOf.length - k, ⟨0, ⟨by omega, hr⟩, ⟨[], ⟨by kernel_rfl, by kernel_rfl, by kernel_rfl, by kernel_rfl, by kernel_rfl, by kernel_rfl, by kernel_rfl⟩, (by repeat' first | exact trivial | exact rfl | kernel_rfl | exact Dle.of_eq rfl | exact MLe.of_eq rfl | exact Dle.i (by omega) | exact Dle.i (by simp only [Int.toNat_natCast] at *; omega) | exact Dle.nil | exact Dle.rc Dle.nil | exact Option.some_ne_none _ | exact Or.inl rfl | exact Or.inr trivial | omega | (simp only [Int.toNat_natCast] at *; omega) | (intro _ _ _ _; exact Dle.of_eq rfl) | refine And.intro ?_ ?_)⟩⟩, fun k hk => ?_⟩
      obtain ⟨hk, hK⟩ := hk
      by_cases hlt : k < f.oneOf.length
      · rw [oneE_at hlt] at hK
        have h5 := badBytes_sp E (f.oneOf.getD k ⟨#[]⟩)
        generalize badStr (f.oneOf.getD k ⟨#[]⟩) = bs at h5 hK
        repeat' first
          | (refine facW_intro ?_; intro _)
          | refine Or.inl ?_
          | ((conv => whnf); first | (refine condW_dec ?_ ?_ <;> intro _ <;> try (exfalso; omega)) | refine condW_not ?_ | (refine condW_bool ?_ ?_ <;> intro _ <;> try (exfalso; omega)) | (refine nbC_t (fun _ => ?_) ?_) | (refine nbC_f ?_ (fun _ => ?_)))
          | refine And.intro (by first | omega | (simp only [Int.toNat_natCast] at *; omega) | (simp only [Nat.reduceAdd, Int.cast_ofNat_Int, true_and, and_true]; omega)  | kernel_rfl) ?_
          | refine RegW.run ?_
          | refine ⟨_, h5, ?_⟩
          | fail
        all_goals first
          | exact ⟨[(1000000, .map 198 es)], [], rfl, ⟨[], ⟨by kernel_rfl, by kernel_rfl, by kernel_rfl, by kernel_rfl, by kernel_rfl, by kernel_rfl, by kernel_rfl⟩, ⟨⟨rfl, Dle.i (by rw [hK]; simp only [Int.toNat_natCast] at *; grind)⟩, trivial⟩, (by repeat' first | exact trivial | exact rfl | kernel_rfl | exact Dle.of_eq rfl | exact MLe.of_eq rfl | exact Dle.i (by omega) | exact Dle.i (by simp only [Int.toNat_natCast] at *; omega) | exact Dle.nil | exact Dle.rc Dle.nil | exact Option.some_ne_none _ | exact Or.inl rfl | exact Or.inr trivial | omega | (simp only [Int.toNat_natCast] at *; omega) | (intro _ _ _ _; exact Dle.of_eq rfl) | refine And.intro ?_ ?_), trivial, trivial⟩, rfl⟩
          | exact ⟨k + 1, ⟨by omega, by rw [hK]; simp only [Int.toNat_natCast] at *; grind⟩, ⟨[], ⟨by kernel_rfl, by kernel_rfl, by kernel_rfl, by kernel_rfl, by kernel_rfl, by kernel_rfl, by kernel_rfl⟩, (by repeat' first | exact trivial | exact rfl | kernel_rfl | exact Dle.of_eq rfl | exact MLe.of_eq rfl | exact Dle.i (by omega) | exact Dle.i (by simp only [Int.toNat_natCast] at *; omega) | exact Dle.nil | exact Dle.rc Dle.nil | exact Option.some_ne_none _ | exact Or.inl rfl | exact Or.inr trivial | omega | (simp only [Int.toNat_natCast] at *; omega) | (intro _ _ _ _; exact Dle.of_eq rfl) | refine And.intro ?_ ?_)⟩, by first | omega | (dsimp only; omega)⟩
          | trace_state
      · rw [oneE_end hlt] at hK
        unfold fieldT at hK
        repeat' first
          | (refine facW_intro ?_; intro _)
          | refine Or.inl ?_
          | ((conv => whnf); first | (refine condW_dec ?_ ?_ <;> intro _ <;> try (exfalso; omega)) | refine condW_not ?_ | (refine condW_bool ?_ ?_ <;> intro _ <;> try (exfalso; omega)) | (refine nbC_t (fun _ => ?_) ?_) | (refine nbC_f ?_ (fun _ => ?_)))
          | refine And.intro (by first | omega | (simp only [Int.toNat_natCast] at *; omega) | (simp only [Nat.reduceAdd, Int.cast_ofNat_Int, true_and, and_true]; omega)  | kernel_rfl) ?_
          | refine RegW.run ?_
          | refine ⟨_, h2, ?_⟩
          | refine ⟨_, h3, ?_⟩
          | fail
        all_goals first
          | exact ⟨[(1000000, .map 198 es)], [], rfl, ⟨[], ⟨by kernel_rfl, by kernel_rfl, by kernel_rfl, by kernel_rfl, by kernel_rfl, by kernel_rfl, by kernel_rfl⟩, ⟨⟨rfl, Dle.i (by rw [hK]; grind)⟩, trivial⟩, (by repeat' first | exact trivial | exact rfl | kernel_rfl | exact Dle.of_eq rfl | exact MLe.of_eq rfl | exact Dle.i (by omega) | exact Dle.i (by simp only [Int.toNat_natCast] at *; omega) | exact Dle.nil | exact Dle.rc Dle.nil | exact Option.some_ne_none _ | exact Or.inl rfl | exact Or.inr trivial | omega | (simp only [Int.toNat_natCast] at *; omega) | (intro _ _ _ _; exact Dle.of_eq rfl) | refine And.intro ?_ ?_), trivial, trivial⟩, rfl⟩
          | trace_state
  · rw [if_pos hA] at hr
    have hA' := hA
    rw [← hr] at hA'
    unfold fieldA at hr hA
    refine SpH.body Tryz.func83 (by kernel_rfl) rfl (by kernel_rfl) (by kernel_rfl) (by kernel_rfl) ?_
    repeat' first
      | (refine facW_intro ?_; intro _)
      | refine Or.inl ?_
      | ((conv => whnf); first | (refine condW_dec ?_ ?_ <;> intro _ <;> try (exfalso; omega)) | refine condW_not ?_ | (refine condW_bool ?_ ?_ <;> intro _ <;> try (exfalso; omega)) | (refine nbC_t (fun _ => ?_) ?_) | (refine nbC_f ?_ (fun _ => ?_)))
      | refine And.intro (by first | omega | (simp only [Int.toNat_natCast] at *; omega) | (simp only [Nat.reduceAdd, Int.cast_ofNat_Int, true_and, and_true]; omega)  | kernel_rfl) ?_
      | refine RegW.run ?_
      | refine ⟨_, h1, ?_⟩
      | refine ⟨_, hl, ?_⟩
      | fail
    all_goals first
      | exact ⟨[(1000000, .map 198 es)], [], rfl, ⟨[], ⟨by kernel_rfl, by kernel_rfl, by kernel_rfl, by kernel_rfl, by kernel_rfl, by kernel_rfl, by kernel_rfl⟩, ⟨⟨rfl, Dle.i (by rw [hr]; grind)⟩, trivial⟩, (by repeat' first | exact trivial | exact rfl | kernel_rfl | exact Dle.of_eq rfl | exact MLe.of_eq rfl | exact Dle.i (by omega) | exact Dle.i (by simp only [Int.toNat_natCast] at *; omega) | exact Dle.nil | exact Dle.rc Dle.nil | exact Option.some_ne_none _ | exact Or.inl rfl | exact Or.inr trivial | omega | (simp only [Int.toNat_natCast] at *; omega) | (intro _ _ _ _; exact Dle.of_eq rfl) | refine And.intro ?_ ?_), trivial, trivial⟩, rfl⟩
      | (exfalso; clear hA; grind)
      | trace_state
end
end Go.Proofs.YtgdoelfajfjopaaGreatDoor
