/-
  What Set answers; the program's Set and the reference's. The program's Set. The reference's SetOf. Set answers as the reference's SetOf: the law's walk.
-/
import Derived.Test.YtjbgafbijamckaaGreatDoorSe2
import Derived.Test.YtjbgafbijamckaaGreatDoorSe6
import Derived.Test.YtjbgafbijamckaaGreatDoorS4
namespace Go.Proofs.YtjbgafbijamckaaGreatDoor
open Go.RowKit
set_option linter.unusedVariables false
set_option linter.unusedSimpArgs false
namespace se
open cr
/-- What Set answers. -/
def setR (v : Vu) (s : ByteArray) (x : Vu) : Vu × Int :=
  if checkE v ≠ 0 then (.zero, checkE v) else if checkE x ≠ 0 then (.zero, checkE x) else if routeOk false s = false then (.zero, 3)
  else if (setS ((partsR s).map stepOf) v x).2 ≠ 0 then (.zero, (setS ((partsR s).map stepOf) v x).2)
  else if checkE (setS ((partsR s).map stepOf) v x).1 ≠ 0 then (.zero, checkE (setS ((partsR s).map stepOf) v x).1)
  else ((setS ((partsR s).map stepOf) v x).1, 0)
/-- The weight that a route's steps may add. -/
theorem stW_le (P : List ByteArray) (h : ∀ p ∈ P, partOk false p = true) : stW (P.map stepOf) ≤ P.length * 42 := by
  induction P with
  | nil => exact Nat.le_refl _
  | cons p t ih =>
    have ih := ih (fun q hq => h q (List.mem_cons_of_mem _ hq))
    have h0 := h p List.mem_cons_self
    have hk : (stepOf p).key.size ≤ 40 := by
      rcases (part_cases h0).2 with ⟨h1, _⟩ | ⟨h1, h2, _⟩
      · have e : stepOf p = ⟨p, 0, false⟩ := by unfold stepOf; rw [if_pos h1]
        rw [e]
        unfold keyOkB at h1
        simp only [Bool.and_eq_true, decide_eq_true_eq] at h1
        exact h1.1.1.2
      · rw [step_idx h1 h2]
        exact Nat.zero_le _
    unfold stW at ih ⊢
    simp only [List.map_cons, List.sum_cons, List.length_cons]
    omega
theorem route_W {s : ByteArray} (h : routeOk false s = true) : stW ((partsR s).map stepOf) ≤ 20000 := by
  have h1 := stW_le (partsR s) (parts_ok h)
  have h2 : (partsR s).length ≤ 401 := by
    have hs : ¬ (400 : Int) < s.size := fun h2 => by rw [routeOk_long h2] at h; cases h
    by_cases h0 : s = ⟨#[]⟩
    · rw [(routeOk_nil (stars := false) h0).2]
      exact Nat.zero_le _
    · rw [(routeOk_all (stars := false) hs h0).2]
      have := pcs_len_le s
      omega
  omega
theorem setR_wt (v : Vu) (s : ByteArray) (x : Vu) : (setR v s x).1.wt ≤ v.wt + x.wt + 20000 := by
  have hz := zero_wt
  unfold setR
  split
  · show (Vu.zero).wt ≤ _; omega
  · split
    · show (Vu.zero).wt ≤ _; omega
    · split
      · show (Vu.zero).wt ≤ _; omega
      · rename_i h
        split
        · show (Vu.zero).wt ≤ _; omega
        · split
          · show (Vu.zero).wt ≤ _; omega
          · have h1 := route_W (s := s) (by simpa using h)
            have h2 := setS_wt ((partsR s).map stepOf) v x (steps_ok _)
            show (setS _ _ _).1.wt ≤ _
            omega
section
variable (E : Env)
set_option maxRecDepth 100000
end
end se
end Go.Proofs.YtjbgafbijamckaaGreatDoor
namespace Go.Proofs.YtjbgafbijamckaaGreatDoor
open Go.RowKit
set_option linter.unusedVariables false
set_option linter.unusedSimpArgs false
namespace se
open cr
section
variable (E : Env)
set_option maxRecDepth 100000
set_option maxHeartbeats 8000000 in
theorem cSet_sp (hML : ∀ w, E.G w → ML w) (v : Vu) (s : ByteArray) (x : Vu) (hw : v.wt ≤ 100000000) (hx : x.wt ≤ 100000000) (hs : s.size ≤ 100000000) : Sp (cx Tryz.prog mixed tyT_ok E) 6 [encV v, dS s, encV x] (.tup [encV (setR v s x).1, i64 (setR v s x).2]) := by
  have hcv := check_sp E v (by have := cnt_le_wt v; omega)
  have hcx := check_sp E x (by have := cnt_le_wt x; omega)
  have hst := steps_sp E hML s false (by omega)
  have hf := @check_ok v
  obtain ⟨r, hr⟩ : ∃ r, r = setR v s x := ⟨_, rfl⟩
  rw [← hr]
  unfold setR at hr
  generalize checkE v = ev at hcv hf hr
  generalize checkE x = ex at hcx hr
  refine Sp.body Tryz.func6 (by kernel_rfl) rfl (by kernel_rfl) (by kernel_rfl) (by kernel_rfl) ?_
  repeat' first
    | (refine codeW_cond rfl ?_; first | (refine condW_dec ?_ ?_ <;> intro _ <;> try (exfalso; omega)) | refine condW_not ?_ | (refine condW_bool ?_ ?_ <;> intro _ <;> try (exfalso; omega)))
    | (refine facW_intro ?_; intro _)
    | refine Or.inl ?_
    | ((conv => whnf); first | (refine condW_dec ?_ ?_ <;> intro _ <;> try (exfalso; omega)) | refine condW_not ?_ | (refine condW_bool ?_ ?_ <;> intro _ <;> try (exfalso; omega)) | (refine nbC_t (fun _ => ?_) ?_) | (refine nbC_f ?_ (fun _ => ?_)))
    | refine And.intro (by first | omega | (simp only [Int.toNat_natCast] at *; omega) | (simp only [Nat.reduceAdd, Int.cast_ofNat_Int, true_and, and_true]; omega)  | (simp only [cx, view, Nat.reduceAdd, Int.toNat_natCast]; omega) | kernel_rfl) ?_
    | refine RegW.run ?_
    | fail
  refine ⟨Nat, fun k => [(19, i64 k)], fun k => [], [3, 5, 6, 17], fun k => [], fun k => k ≤ 2 ∧ (0 < k → ev = 0) ∧ (1 < k → ex = 0), fun k => 2 - k, ⟨0, ⟨by omega, fun h => by omega, fun h => by omega⟩, ⟨[], ⟨by kernel_rfl, by kernel_rfl, by kernel_rfl, by kernel_rfl, by kernel_rfl, by kernel_rfl, by kernel_rfl⟩, (by repeat' first | exact trivial | exact rfl | kernel_rfl | exact Dle.of_eq rfl | exact MLe.of_eq rfl | exact Dle.i (by omega) | exact Dle.i (by simp only [Int.toNat_natCast] at *; omega) | exact Dle.nil | exact Dle.rc Dle.nil | exact Option.some_ne_none _ | exact Or.inl rfl | exact Or.inr trivial | omega | (simp only [Int.toNat_natCast] at *; omega) | (intro _ _ _ _; exact Dle.of_eq rfl) | refine And.intro ?_ ?_)⟩⟩, fun k hk => ?_⟩
  obtain ⟨hk, hv0, hx0⟩ := hk
  obtain rfl | rfl | rfl : k = 0 ∨ k = 1 ∨ k = 2 := by omega
  · clear hcx hst hf hv0 hx0
    repeat' first
      | (refine codeW_cond rfl ?_; first | (refine condW_dec ?_ ?_ <;> intro _ <;> try (exfalso; omega)) | refine condW_not ?_ | (refine condW_bool ?_ ?_ <;> intro _ <;> try (exfalso; omega)))
      | (refine facW_intro ?_; intro _)
      | refine Or.inl ?_
      | ((conv => whnf); first | (refine condW_dec ?_ ?_ <;> intro _ <;> try (exfalso; omega)) | refine condW_not ?_ | (refine condW_bool ?_ ?_ <;> intro _ <;> try (exfalso; omega)) | (refine nbC_t (fun _ => ?_) ?_) | (refine nbC_f ?_ (fun _ => ?_)))
      | refine And.intro (by first | omega | (simp only [Int.toNat_natCast] at *; omega) | (simp only [Nat.reduceAdd, Int.cast_ofNat_Int, true_and, and_true]; omega)  | (simp only [cx, view, Nat.reduceAdd, Int.toNat_natCast]; omega) | kernel_rfl) ?_
      | refine RegW.run ?_
      | refine ⟨_, hcv, ?_⟩
      | fail
    all_goals first
      | (exfalso; omega)
      | (rename_i h; have h0 : ev = 0 := (by omega); exact ⟨1, ⟨by omega, fun _ => h0, fun h => by omega⟩, ⟨[], ⟨by kernel_rfl, by kernel_rfl, by kernel_rfl, by kernel_rfl, by kernel_rfl, by kernel_rfl, by kernel_rfl⟩, (by repeat' first | exact trivial | exact rfl | kernel_rfl | exact Dle.of_eq rfl | exact MLe.of_eq rfl | exact Dle.i (by omega) | exact Dle.i (by simp only [Int.toNat_natCast] at *; omega) | exact Dle.nil | exact Dle.rc Dle.nil | exact Option.some_ne_none _ | exact Or.inl rfl | exact Or.inr trivial | omega | (simp only [Int.toNat_natCast] at *; omega) | (intro _ _ _ _; exact Dle.of_eq rfl) | refine And.intro ?_ ?_)⟩, by first | omega | (dsimp only; omega)⟩)
      | (rename_i h; have h0 : ev ≠ 0 := (by omega); rw [if_pos h0] at hr; subst hr; exact Dle.tup (X := (cx Tryz.prog mixed tyT_ok E)) ⟨zeroC E, Dle.refl _ _, trivial⟩)
      | trace_state
  · have h1 := hv0 (by omega)
    subst h1
    rw [if_neg (show ¬ ((0 : Int) ≠ 0) from fun h2 => h2 rfl)] at hr
    clear hcv hst hf hv0 hx0
    repeat' first
      | (refine codeW_cond rfl ?_; first | (refine condW_dec ?_ ?_ <;> intro _ <;> try (exfalso; omega)) | refine condW_not ?_ | (refine condW_bool ?_ ?_ <;> intro _ <;> try (exfalso; omega)))
      | (refine facW_intro ?_; intro _)
      | refine Or.inl ?_
      | ((conv => whnf); first | (refine condW_dec ?_ ?_ <;> intro _ <;> try (exfalso; omega)) | refine condW_not ?_ | (refine condW_bool ?_ ?_ <;> intro _ <;> try (exfalso; omega)) | (refine nbC_t (fun _ => ?_) ?_) | (refine nbC_f ?_ (fun _ => ?_)))
      | refine And.intro (by first | omega | (simp only [Int.toNat_natCast] at *; omega) | (simp only [Nat.reduceAdd, Int.cast_ofNat_Int, true_and, and_true]; omega)  | (simp only [cx, view, Nat.reduceAdd, Int.toNat_natCast]; omega) | kernel_rfl) ?_
      | refine RegW.run ?_
      | refine ⟨_, hcx, ?_⟩
      | fail
    all_goals first
      | (exfalso; omega)
      | (rename_i h; have h0 : ex = 0 := (by omega); exact ⟨2, ⟨by omega, fun _ => rfl, fun _ => h0⟩, ⟨[], ⟨by kernel_rfl, by kernel_rfl, by kernel_rfl, by kernel_rfl, by kernel_rfl, by kernel_rfl, by kernel_rfl⟩, (by repeat' first | exact trivial | exact rfl | kernel_rfl | exact Dle.of_eq rfl | exact MLe.of_eq rfl | exact Dle.i (by omega) | exact Dle.i (by simp only [Int.toNat_natCast] at *; omega) | exact Dle.nil | exact Dle.rc Dle.nil | exact Option.some_ne_none _ | exact Or.inl rfl | exact Or.inr trivial | omega | (simp only [Int.toNat_natCast] at *; omega) | (intro _ _ _ _; exact Dle.of_eq rfl) | refine And.intro ?_ ?_)⟩, by first | omega | (dsimp only; omega)⟩)
      | (rename_i h; have h0 : ex ≠ 0 := (by omega); rw [if_pos h0] at hr; subst hr; exact Dle.tup (X := (cx Tryz.prog mixed tyT_ok E)) ⟨zeroC E, Dle.refl _ _, trivial⟩)
      | trace_state
  · have h1 := hv0 (by omega)
    have h2 := hx0 (by omega)
    have hfv := hf h1
    subst h1 h2
    rw [if_neg (show ¬ ((0 : Int) ≠ 0) from fun h2 => h2 rfl), if_neg (show ¬ ((0 : Int) ≠ 0) from fun h2 => h2 rfl)] at hr
    clear hcv hcx hf hv0 hx0
    cases ho : routeOk false s
    · rw [ho] at hst hr
      have hr := hr.trans (if_pos rfl)
      subst hr
      repeat' first
        | (refine codeW_cond rfl ?_; first | (refine condW_dec ?_ ?_ <;> intro _ <;> try (exfalso; omega)) | refine condW_not ?_ | (refine condW_bool ?_ ?_ <;> intro _ <;> try (exfalso; omega)))
        | (refine facW_intro ?_; intro _)
        | refine Or.inl ?_
        | ((conv => whnf); first | (refine condW_dec ?_ ?_ <;> intro _ <;> try (exfalso; omega)) | refine condW_not ?_ | (refine condW_bool ?_ ?_ <;> intro _ <;> try (exfalso; omega)) | (refine nbC_t (fun _ => ?_) ?_) | (refine nbC_f ?_ (fun _ => ?_)))
        | refine And.intro (by first | omega | (simp only [Int.toNat_natCast] at *; omega) | (simp only [Nat.reduceAdd, Int.cast_ofNat_Int, true_and, and_true]; omega)  | (simp only [cx, view, Nat.reduceAdd, Int.toNat_natCast]; omega) | kernel_rfl) ?_
        | refine RegW.run ?_
        | refine ⟨_, hst, ?_⟩
        | fail
      all_goals first
        | (exfalso; omega)
        | (exfalso; rename_i h; cases h; done)
        | exact Dle.tup (X := (cx Tryz.prog mixed tyT_ok E)) ⟨zeroC E, Dle.refl _ _, trivial⟩
        | trace_state
    · have hpo := parts_ok ho
      have hW := route_W ho
      rw [ho, if_pos rfl] at hst
      rw [ho, if_neg (show ¬ (true = false) by decide)] at hr
      have hp := set_sp E ((partsR s).map stepOf) v x (steps_ok _) hfv (by omega)
      have hw2 := setS_wt ((partsR s).map stepOf) v x (steps_ok (partsR s))
      generalize setS ((partsR s).map stepOf) v x = R at hp hr hw2
      obtain ⟨y, e⟩ := R
      have hw2 : y.wt ≤ v.wt + x.wt + stW ((partsR s).map stepOf) := hw2
      have hcy := check_sp E y (by have := cnt_le_wt y; omega)
      have hcl := clone_sp E _ y (Nat.lt_succ_self _) (by omega)
      by_cases he : e = 0
      · subst he
        rw [if_neg (show ¬ ((y, (0 : Int)).2 ≠ 0) from fun h => h rfl)] at hr
        have hr : r = if checkE y ≠ 0 then (.zero, checkE y) else (y, 0) := hr
        generalize checkE y = ey at hcy hr
        by_cases hy : ey = 0
        · subst hy
          have hr := hr.trans (if_neg (fun h => h rfl))
          subst hr
          repeat' first
            | (refine codeW_cond rfl ?_; first | (refine condW_dec ?_ ?_ <;> intro _ <;> try (exfalso; omega)) | refine condW_not ?_ | (refine condW_bool ?_ ?_ <;> intro _ <;> try (exfalso; omega)))
            | (refine facW_intro ?_; intro _)
            | refine Or.inl ?_
            | ((conv => whnf); first | (refine condW_dec ?_ ?_ <;> intro _ <;> try (exfalso; omega)) | refine condW_not ?_ | (refine condW_bool ?_ ?_ <;> intro _ <;> try (exfalso; omega)) | (refine nbC_t (fun _ => ?_) ?_) | (refine nbC_f ?_ (fun _ => ?_)))
            | refine And.intro (by first | omega | (simp only [Int.toNat_natCast] at *; omega) | (simp only [Nat.reduceAdd, Int.cast_ofNat_Int, true_and, and_true]; omega)  | (simp only [cx, view, Nat.reduceAdd, Int.toNat_natCast]; omega) | kernel_rfl) ?_
            | refine RegW.run ?_
            | refine ⟨_, hst, ?_⟩
            | refine ⟨_, hp, ?_⟩
            | refine ⟨_, hcy, ?_⟩
            | refine ⟨_, hcl, ?_⟩
            | fail
          all_goals first
            | (exfalso; omega)
            | (exfalso; rename_i h; cases h; done)
            | exact Dle.tup (X := (cx Tryz.prog mixed tyT_ok E)) ⟨Dle.refl _ _, Dle.refl _ _, trivial⟩
            | trace_state
        · have hr := hr.trans (if_pos hy)
          subst hr
          repeat' first
            | (refine codeW_cond rfl ?_; first | (refine condW_dec ?_ ?_ <;> intro _ <;> try (exfalso; omega)) | refine condW_not ?_ | (refine condW_bool ?_ ?_ <;> intro _ <;> try (exfalso; omega)))
            | (refine facW_intro ?_; intro _)
            | refine Or.inl ?_
            | ((conv => whnf); first | (refine condW_dec ?_ ?_ <;> intro _ <;> try (exfalso; omega)) | refine condW_not ?_ | (refine condW_bool ?_ ?_ <;> intro _ <;> try (exfalso; omega)) | (refine nbC_t (fun _ => ?_) ?_) | (refine nbC_f ?_ (fun _ => ?_)))
            | refine And.intro (by first | omega | (simp only [Int.toNat_natCast] at *; omega) | (simp only [Nat.reduceAdd, Int.cast_ofNat_Int, true_and, and_true]; omega)  | (simp only [cx, view, Nat.reduceAdd, Int.toNat_natCast]; omega) | kernel_rfl) ?_
            | refine RegW.run ?_
            | refine ⟨_, hst, ?_⟩
            | refine ⟨_, hp, ?_⟩
            | refine ⟨_, hcy, ?_⟩
            | fail
          all_goals first
            | (exfalso; omega)
            | (exfalso; rename_i h; cases h; done)
            | exact Dle.tup (X := (cx Tryz.prog mixed tyT_ok E)) ⟨zeroC E, Dle.refl _ _, trivial⟩
            | trace_state
      · have hr := hr.trans (if_pos he)
        have hr : r = (.zero, e) := hr
        subst hr
        repeat' first
          | (refine codeW_cond rfl ?_; first | (refine condW_dec ?_ ?_ <;> intro _ <;> try (exfalso; omega)) | refine condW_not ?_ | (refine condW_bool ?_ ?_ <;> intro _ <;> try (exfalso; omega)))
          | (refine facW_intro ?_; intro _)
          | refine Or.inl ?_
          | ((conv => whnf); first | (refine condW_dec ?_ ?_ <;> intro _ <;> try (exfalso; omega)) | refine condW_not ?_ | (refine condW_bool ?_ ?_ <;> intro _ <;> try (exfalso; omega)) | (refine nbC_t (fun _ => ?_) ?_) | (refine nbC_f ?_ (fun _ => ?_)))
          | refine And.intro (by first | omega | (simp only [Int.toNat_natCast] at *; omega) | (simp only [Nat.reduceAdd, Int.cast_ofNat_Int, true_and, and_true]; omega)  | (simp only [cx, view, Nat.reduceAdd, Int.toNat_natCast]; omega) | kernel_rfl) ?_
          | refine RegW.run ?_
          | refine ⟨_, hst, ?_⟩
          | refine ⟨_, hp, ?_⟩
          | fail
        all_goals first
          | (exfalso; omega)
          | (exfalso; rename_i h; cases h; done)
          | exact Dle.tup (X := (cx Tryz.prog mixed tyT_ok E)) ⟨zeroC E, Dle.refl _ _, trivial⟩
          | trace_state
end
end se
end Go.Proofs.YtjbgafbijamckaaGreatDoor
namespace Go.Proofs.YtjbgafbijamckaaGreatDoor
open Go.RowKit
set_option linter.unusedVariables false
set_option linter.unusedSimpArgs false
namespace se
open cr
section
variable (E : Env)
set_option maxRecDepth 100000
set_option maxHeartbeats 8000000 in
theorem setOf_sp (hML : ∀ w, E.G w → ML w) (v : Vu) (s : ByteArray) (x : Vu) (hw : v.wt ≤ 100000000) (hx : x.wt ≤ 100000000) (hs : s.size ≤ 100000000) : Sp (cx Tryz.prog mixed tyT_ok E) 7 [encV v, dS s, encV x] (.tup [encV (setR v s x).1, i64 (setR v s x).2]) := by
  have hcv := refCheck_sp E v (by have := cnt_le_wt v; omega)
  have hcx := refCheck_sp E x (by have := cnt_le_wt x; omega)
  have hst := routeParts_sp E hML s false (by omega)
  have hf := @check_ok v
  obtain ⟨r, hr⟩ : ∃ r, r = setR v s x := ⟨_, rfl⟩
  rw [← hr]
  unfold setR at hr
  generalize checkE v = ev at hcv hf hr
  generalize checkE x = ex at hcx hr
  refine Sp.body Tryz.func7 (by kernel_rfl) rfl (by kernel_rfl) (by kernel_rfl) (by kernel_rfl) ?_
  repeat' first
    | (refine codeW_cond rfl ?_; first | (refine condW_dec ?_ ?_ <;> intro _ <;> try (exfalso; omega)) | refine condW_not ?_ | (refine condW_bool ?_ ?_ <;> intro _ <;> try (exfalso; omega)))
    | (refine facW_intro ?_; intro _)
    | refine Or.inl ?_
    | ((conv => whnf); first | (refine condW_dec ?_ ?_ <;> intro _ <;> try (exfalso; omega)) | refine condW_not ?_ | (refine condW_bool ?_ ?_ <;> intro _ <;> try (exfalso; omega)) | (refine nbC_t (fun _ => ?_) ?_) | (refine nbC_f ?_ (fun _ => ?_)))
    | refine And.intro (by first | omega | (simp only [Int.toNat_natCast] at *; omega) | (simp only [Nat.reduceAdd, Int.cast_ofNat_Int, true_and, and_true]; omega)  | (simp only [cx, view, Nat.reduceAdd, Int.toNat_natCast]; omega) | kernel_rfl) ?_
    | refine RegW.run ?_
    | fail
  refine ⟨Nat, fun k => [(19, i64 k)], fun k => [], [3, 5, 6, 17], fun k => [], fun k => k ≤ 2 ∧ (0 < k → ev = 0) ∧ (1 < k → ex = 0), fun k => 2 - k, ⟨0, ⟨by omega, fun h => by omega, fun h => by omega⟩, ⟨[], ⟨by kernel_rfl, by kernel_rfl, by kernel_rfl, by kernel_rfl, by kernel_rfl, by kernel_rfl, by kernel_rfl⟩, (by repeat' first | exact trivial | exact rfl | kernel_rfl | exact Dle.of_eq rfl | exact MLe.of_eq rfl | exact Dle.i (by omega) | exact Dle.i (by simp only [Int.toNat_natCast] at *; omega) | exact Dle.nil | exact Dle.rc Dle.nil | exact Option.some_ne_none _ | exact Or.inl rfl | exact Or.inr trivial | omega | (simp only [Int.toNat_natCast] at *; omega) | (intro _ _ _ _; exact Dle.of_eq rfl) | refine And.intro ?_ ?_)⟩⟩, fun k hk => ?_⟩
  obtain ⟨hk, hv0, hx0⟩ := hk
  obtain rfl | rfl | rfl : k = 0 ∨ k = 1 ∨ k = 2 := by omega
  · clear hcx hst hf hv0 hx0
    repeat' first
      | (refine codeW_cond rfl ?_; first | (refine condW_dec ?_ ?_ <;> intro _ <;> try (exfalso; omega)) | refine condW_not ?_ | (refine condW_bool ?_ ?_ <;> intro _ <;> try (exfalso; omega)))
      | (refine facW_intro ?_; intro _)
      | refine Or.inl ?_
      | ((conv => whnf); first | (refine condW_dec ?_ ?_ <;> intro _ <;> try (exfalso; omega)) | refine condW_not ?_ | (refine condW_bool ?_ ?_ <;> intro _ <;> try (exfalso; omega)) | (refine nbC_t (fun _ => ?_) ?_) | (refine nbC_f ?_ (fun _ => ?_)))
      | refine And.intro (by first | omega | (simp only [Int.toNat_natCast] at *; omega) | (simp only [Nat.reduceAdd, Int.cast_ofNat_Int, true_and, and_true]; omega)  | (simp only [cx, view, Nat.reduceAdd, Int.toNat_natCast]; omega) | kernel_rfl) ?_
      | refine RegW.run ?_
      | refine ⟨_, hcv, ?_⟩
      | fail
    all_goals first
      | (exfalso; omega)
      | (rename_i h; have h0 : ev = 0 := (by omega); exact ⟨1, ⟨by omega, fun _ => h0, fun h => by omega⟩, ⟨[], ⟨by kernel_rfl, by kernel_rfl, by kernel_rfl, by kernel_rfl, by kernel_rfl, by kernel_rfl, by kernel_rfl⟩, (by repeat' first | exact trivial | exact rfl | kernel_rfl | exact Dle.of_eq rfl | exact MLe.of_eq rfl | exact Dle.i (by omega) | exact Dle.i (by simp only [Int.toNat_natCast] at *; omega) | exact Dle.nil | exact Dle.rc Dle.nil | exact Option.some_ne_none _ | exact Or.inl rfl | exact Or.inr trivial | omega | (simp only [Int.toNat_natCast] at *; omega) | (intro _ _ _ _; exact Dle.of_eq rfl) | refine And.intro ?_ ?_)⟩, by first | omega | (dsimp only; omega)⟩)
      | (rename_i h; have h0 : ev ≠ 0 := (by omega); rw [if_pos h0] at hr; subst hr; exact Dle.tup (X := (cx Tryz.prog mixed tyT_ok E)) ⟨zeroC E, Dle.refl _ _, trivial⟩)
      | trace_state
  · have h1 := hv0 (by omega)
    subst h1
    rw [if_neg (show ¬ ((0 : Int) ≠ 0) from fun h2 => h2 rfl)] at hr
    clear hcv hst hf hv0 hx0
    repeat' first
      | (refine codeW_cond rfl ?_; first | (refine condW_dec ?_ ?_ <;> intro _ <;> try (exfalso; omega)) | refine condW_not ?_ | (refine condW_bool ?_ ?_ <;> intro _ <;> try (exfalso; omega)))
      | (refine facW_intro ?_; intro _)
      | refine Or.inl ?_
      | ((conv => whnf); first | (refine condW_dec ?_ ?_ <;> intro _ <;> try (exfalso; omega)) | refine condW_not ?_ | (refine condW_bool ?_ ?_ <;> intro _ <;> try (exfalso; omega)) | (refine nbC_t (fun _ => ?_) ?_) | (refine nbC_f ?_ (fun _ => ?_)))
      | refine And.intro (by first | omega | (simp only [Int.toNat_natCast] at *; omega) | (simp only [Nat.reduceAdd, Int.cast_ofNat_Int, true_and, and_true]; omega)  | (simp only [cx, view, Nat.reduceAdd, Int.toNat_natCast]; omega) | kernel_rfl) ?_
      | refine RegW.run ?_
      | refine ⟨_, hcx, ?_⟩
      | fail
    all_goals first
      | (exfalso; omega)
      | (rename_i h; have h0 : ex = 0 := (by omega); exact ⟨2, ⟨by omega, fun _ => rfl, fun _ => h0⟩, ⟨[], ⟨by kernel_rfl, by kernel_rfl, by kernel_rfl, by kernel_rfl, by kernel_rfl, by kernel_rfl, by kernel_rfl⟩, (by repeat' first | exact trivial | exact rfl | kernel_rfl | exact Dle.of_eq rfl | exact MLe.of_eq rfl | exact Dle.i (by omega) | exact Dle.i (by simp only [Int.toNat_natCast] at *; omega) | exact Dle.nil | exact Dle.rc Dle.nil | exact Option.some_ne_none _ | exact Or.inl rfl | exact Or.inr trivial | omega | (simp only [Int.toNat_natCast] at *; omega) | (intro _ _ _ _; exact Dle.of_eq rfl) | refine And.intro ?_ ?_)⟩, by first | omega | (dsimp only; omega)⟩)
      | (rename_i h; have h0 : ex ≠ 0 := (by omega); rw [if_pos h0] at hr; subst hr; exact Dle.tup (X := (cx Tryz.prog mixed tyT_ok E)) ⟨zeroC E, Dle.refl _ _, trivial⟩)
      | trace_state
  · have h1 := hv0 (by omega)
    have h2 := hx0 (by omega)
    have hfv := hf h1
    subst h1 h2
    rw [if_neg (show ¬ ((0 : Int) ≠ 0) from fun h2 => h2 rfl), if_neg (show ¬ ((0 : Int) ≠ 0) from fun h2 => h2 rfl)] at hr
    clear hcv hcx hf hv0 hx0
    cases ho : routeOk false s
    · rw [ho] at hst hr
      have hr := hr.trans (if_pos rfl)
      subst hr
      repeat' first
        | (refine codeW_cond rfl ?_; first | (refine condW_dec ?_ ?_ <;> intro _ <;> try (exfalso; omega)) | refine condW_not ?_ | (refine condW_bool ?_ ?_ <;> intro _ <;> try (exfalso; omega)))
        | (refine facW_intro ?_; intro _)
        | refine Or.inl ?_
        | ((conv => whnf); first | (refine condW_dec ?_ ?_ <;> intro _ <;> try (exfalso; omega)) | refine condW_not ?_ | (refine condW_bool ?_ ?_ <;> intro _ <;> try (exfalso; omega)) | (refine nbC_t (fun _ => ?_) ?_) | (refine nbC_f ?_ (fun _ => ?_)))
        | refine And.intro (by first | omega | (simp only [Int.toNat_natCast] at *; omega) | (simp only [Nat.reduceAdd, Int.cast_ofNat_Int, true_and, and_true]; omega)  | (simp only [cx, view, Nat.reduceAdd, Int.toNat_natCast]; omega) | kernel_rfl) ?_
        | refine RegW.run ?_
        | refine ⟨_, hst, ?_⟩
        | fail
      all_goals first
        | (exfalso; omega)
        | (exfalso; rename_i h; cases h; done)
        | exact Dle.tup (X := (cx Tryz.prog mixed tyT_ok E)) ⟨zeroC E, Dle.refl _ _, trivial⟩
        | trace_state
    · have hpo := parts_ok ho
      have hW := route_W ho
      rw [ho, if_pos rfl] at hst
      rw [ho, if_neg (show ¬ (true = false) by decide)] at hr
      have hp := put_spR E (partsR s) v x hpo hfv (by omega)
      have hw2 := setS_wt ((partsR s).map stepOf) v x (steps_ok (partsR s))
      generalize setS ((partsR s).map stepOf) v x = R at hp hr hw2
      obtain ⟨y, e⟩ := R
      have hw2 : y.wt ≤ v.wt + x.wt + stW ((partsR s).map stepOf) := hw2
      have hcy := refCheck_sp E y (by have := cnt_le_wt y; omega)
      by_cases he : e = 0
      · subst he
        rw [if_neg (show ¬ ((y, (0 : Int)).2 ≠ 0) from fun h => h rfl)] at hr
        have hr : r = if checkE y ≠ 0 then (.zero, checkE y) else (y, 0) := hr
        generalize checkE y = ey at hcy hr
        by_cases hy : ey = 0
        · subst hy
          have hr := hr.trans (if_neg (fun h => h rfl))
          subst hr
          repeat' first
            | (refine codeW_cond rfl ?_; first | (refine condW_dec ?_ ?_ <;> intro _ <;> try (exfalso; omega)) | refine condW_not ?_ | (refine condW_bool ?_ ?_ <;> intro _ <;> try (exfalso; omega)))
            | (refine facW_intro ?_; intro _)
            | refine Or.inl ?_
            | ((conv => whnf); first | (refine condW_dec ?_ ?_ <;> intro _ <;> try (exfalso; omega)) | refine condW_not ?_ | (refine condW_bool ?_ ?_ <;> intro _ <;> try (exfalso; omega)) | (refine nbC_t (fun _ => ?_) ?_) | (refine nbC_f ?_ (fun _ => ?_)))
            | refine And.intro (by first | omega | (simp only [Int.toNat_natCast] at *; omega) | (simp only [Nat.reduceAdd, Int.cast_ofNat_Int, true_and, and_true]; omega)  | (simp only [cx, view, Nat.reduceAdd, Int.toNat_natCast]; omega) | kernel_rfl) ?_
            | refine RegW.run ?_
            | refine ⟨_, hst, ?_⟩
            | refine ⟨_, hp, ?_⟩
            | refine ⟨_, hcy, ?_⟩
            | fail
          all_goals first
            | (exfalso; omega)
            | (exfalso; rename_i h; cases h; done)
            | exact Dle.tup (X := (cx Tryz.prog mixed tyT_ok E)) ⟨Dle.refl _ _, Dle.refl _ _, trivial⟩
            | trace_state
        · have hr := hr.trans (if_pos hy)
          subst hr
          repeat' first
            | (refine codeW_cond rfl ?_; first | (refine condW_dec ?_ ?_ <;> intro _ <;> try (exfalso; omega)) | refine condW_not ?_ | (refine condW_bool ?_ ?_ <;> intro _ <;> try (exfalso; omega)))
            | (refine facW_intro ?_; intro _)
            | refine Or.inl ?_
            | ((conv => whnf); first | (refine condW_dec ?_ ?_ <;> intro _ <;> try (exfalso; omega)) | refine condW_not ?_ | (refine condW_bool ?_ ?_ <;> intro _ <;> try (exfalso; omega)) | (refine nbC_t (fun _ => ?_) ?_) | (refine nbC_f ?_ (fun _ => ?_)))
            | refine And.intro (by first | omega | (simp only [Int.toNat_natCast] at *; omega) | (simp only [Nat.reduceAdd, Int.cast_ofNat_Int, true_and, and_true]; omega)  | (simp only [cx, view, Nat.reduceAdd, Int.toNat_natCast]; omega) | kernel_rfl) ?_
            | refine RegW.run ?_
            | refine ⟨_, hst, ?_⟩
            | refine ⟨_, hp, ?_⟩
            | refine ⟨_, hcy, ?_⟩
            | fail
          all_goals first
            | (exfalso; omega)
            | (exfalso; rename_i h; cases h; done)
            | exact Dle.tup (X := (cx Tryz.prog mixed tyT_ok E)) ⟨zeroC E, Dle.refl _ _, trivial⟩
            | trace_state
      · have hr := hr.trans (if_pos he)
        have hr : r = (.zero, e) := hr
        subst hr
        repeat' first
          | (refine codeW_cond rfl ?_; first | (refine condW_dec ?_ ?_ <;> intro _ <;> try (exfalso; omega)) | refine condW_not ?_ | (refine condW_bool ?_ ?_ <;> intro _ <;> try (exfalso; omega)))
          | (refine facW_intro ?_; intro _)
          | refine Or.inl ?_
          | ((conv => whnf); first | (refine condW_dec ?_ ?_ <;> intro _ <;> try (exfalso; omega)) | refine condW_not ?_ | (refine condW_bool ?_ ?_ <;> intro _ <;> try (exfalso; omega)) | (refine nbC_t (fun _ => ?_) ?_) | (refine nbC_f ?_ (fun _ => ?_)))
          | refine And.intro (by first | omega | (simp only [Int.toNat_natCast] at *; omega) | (simp only [Nat.reduceAdd, Int.cast_ofNat_Int, true_and, and_true]; omega)  | (simp only [cx, view, Nat.reduceAdd, Int.toNat_natCast]; omega) | kernel_rfl) ?_
          | refine RegW.run ?_
          | refine ⟨_, hst, ?_⟩
          | refine ⟨_, hp, ?_⟩
          | fail
        all_goals first
          | (exfalso; omega)
          | (exfalso; rename_i h; cases h; done)
          | exact Dle.tup (X := (cx Tryz.prog mixed tyT_ok E)) ⟨zeroC E, Dle.refl _ _, trivial⟩
          | trace_state
end
end se
end Go.Proofs.YtjbgafbijamckaaGreatDoor
namespace Go.Proofs.YtjbgafbijamckaaGreatDoor
open Go.RowKit
set_option linter.unusedVariables false
set_option linter.unusedSimpArgs false
namespace se
open cr
section
variable (E : Env)
set_option maxRecDepth 100000
theorem confSets_sp (hML : ∀ w, E.G w → ML w) (v : Vu) (s : ByteArray) (x : Vu) (hw : v.wt ≤ 100000000) (hx : x.wt ≤ 100000000) (hs : s.size ≤ 100000000) : Sp (cx Tryz.prog mixed tyT_ok E) 3 [encV v, dS s, encV x] (dB true) := by
  have h1 := cSet_sp E hML v s x hw hx hs
  have h2 := setOf_sp E hML v s x hw hx hs
  have h3 := sameOf_sp E (setR v s x).1
  generalize setR v s x = r at h1 h2 h3
  refine Sp.body Tryz.func3 (by kernel_rfl) rfl (by kernel_rfl) (by kernel_rfl) (by kernel_rfl) ?_
  repeat' first
    | (refine codeW_cond rfl ?_; first | (refine condW_dec ?_ ?_ <;> intro _ <;> try (exfalso; omega)) | refine condW_not ?_ | (refine condW_bool ?_ ?_ <;> intro _ <;> try (exfalso; omega)))
    | (refine facW_intro ?_; intro _)
    | refine Or.inl ?_
    | ((conv => whnf); first | (refine condW_dec ?_ ?_ <;> intro _) | refine condW_not ?_ | (refine condW_bool ?_ ?_ <;> intro _) | (refine nbC_t (fun _ => ?_) ?_) | (refine nbC_f ?_ (fun _ => ?_)))
    | refine And.intro (by first | omega | (simp only [Int.toNat_natCast] at *; omega) | (simp only [Nat.reduceAdd, Int.cast_ofNat_Int, true_and, and_true]; omega)  | (simp only [cx, view, Nat.reduceAdd, Int.toNat_natCast]; omega) | kernel_rfl) ?_
    | refine RegW.run ?_
    | refine ⟨_, h1, ?_⟩
    | refine ⟨_, h2, ?_⟩
    | refine ⟨_, h3, ?_⟩
    | fail
  all_goals first
    | (exfalso; rename_i h; exact h rfl)
    | exact Dle.bo (by simp)
    | trace_state
end
end se
end Go.Proofs.YtjbgafbijamckaaGreatDoor
