/-
  What Apply answers, plain; the program's Apply.
-/
import Derived.Test.YtjbgafbijamckaaGreatDoorAp2
namespace Go.Proofs.YtjbgafbijamckaaGreatDoor
open Go.RowKit
set_option linter.unusedVariables false
set_option linter.unusedSimpArgs false
namespace ap
open cr se
/-- The steps of a change. -/
def stepsC (c : Chg) : List Stp := (partsR c.route).map stepOf
/-- A value after a change; an error. -/
def outS (c : Chg) (v : Vu) : Vu × Int :=
  if c.gone = true then ((remS (stepsC c) v).getD .zero, if (remS (stepsC c) v).isSome = true then 0 else 7) else setS (stepsC c) v c.value
/-- A value after changes. -/
def appS : List Chg → Vu → Vu × Int
  | [], v => (v, 0)
  | c :: r, v => if (outS c v).2 ≠ 0 then (.zero, (outS c v).2) else appS r (outS c v).1
/-- The first fault of changes. -/
def fltS : List Chg → Int
  | [] => 0
  | c :: r => if chF c ≠ 0 then chF c else fltS r
/-- What Apply answers. -/
def appR (v : Vu) (l : List Chg) : Vu × Int :=
  if checkE v ≠ 0 then (.zero, checkE v) else if fltS l ≠ 0 then (.zero, fltS l) else if (appS l v).2 ≠ 0 then (.zero, (appS l v).2)
  else if checkE (appS l v).1 ≠ 0 then (.zero, checkE (appS l v).1) else ((appS l v).1, 0)
theorem fltS_drop {l : List Chg} {k : Nat} (h : k < l.length) : fltS (l.drop k) = if chF (l.getD k default) ≠ 0 then chF (l.getD k default) else fltS (l.drop (k + 1)) := by
  rw [drop_cons l default k h]
  rfl
theorem fltS_end {l : List Chg} {k : Nat} (h : l.length ≤ k) : fltS (l.drop k) = 0 := by rw [List.drop_of_length_le h]; rfl
theorem appS_drop {l : List Chg} {k : Nat} {v : Vu} (h : k < l.length) : appS (l.drop k) v = if (outS (l.getD k default) v).2 ≠ 0 then (.zero, (outS (l.getD k default) v).2) else appS (l.drop (k + 1)) (outS (l.getD k default) v).1 := by
  rw [drop_cons l default k h]
  rfl
theorem appS_end {l : List Chg} {k : Nat} {v : Vu} (h : l.length ≤ k) : appS (l.drop k) v = (v, 0) := by rw [List.drop_of_length_le h]; rfl
theorem fltS_mem : ∀ (l : List Chg), fltS l = 0 → ∀ c ∈ l, chF c = 0
  | [], _, c, h => by cases h
  | x :: r, h0, c, h => by
    unfold fltS at h0
    split at h0
    · rename_i h1
      exact absurd h0 h1
    · rename_i h1
      rcases List.mem_cons.1 h with rfl | h
      · exact Classical.not_not.1 h1
      · exact fltS_mem r h0 c h
def wsum (l : List Chg) : Nat := (l.map fun c => c.value.wt + 20000).sum
theorem wsum_drop {l : List Chg} {k : Nat} (h : k < l.length) : wsum (l.drop k) = (l.getD k default).value.wt + 20000 + wsum (l.drop (k + 1)) := by
  rw [drop_cons l default k h]
  unfold wsum
  rw [List.map_cons, List.sum_cons]
theorem wsum_le : ∀ l : List Chg, wsum l ≤ (l.map Chg.wt).sum * 20001
  | [] => Nat.le_refl _
  | c :: r => by
    have ih := wsum_le r
    unfold wsum at ih ⊢
    simp only [List.map_cons, List.sum_cons]
    have : c.value.wt + 20000 ≤ c.wt * 20001 := by unfold Chg.wt; omega
    omega
theorem wt_at : ∀ (l : List Chg) (k : Nat), k < l.length → (l.getD k default).wt ≤ (l.map Chg.wt).sum
  | [], k, h => absurd h (Nat.not_lt_zero _)
  | c :: r, 0, _ => by simp only [List.getD_cons_zero, List.map_cons, List.sum_cons]; omega
  | c :: r, k + 1, h => by
    have := wt_at r k (by simpa using h)
    simp only [List.getD_cons_succ, List.map_cons, List.sum_cons]
    omega
theorem len_wt : ∀ l : List Chg, l.length ≤ (l.map Chg.wt).sum
  | [] => Nat.le_refl _
  | c :: r => by
    have := len_wt r
    simp only [List.length_cons, List.map_cons, List.sum_cons]
    have : 1 ≤ c.wt := by unfold Chg.wt; omega
    omega
/-- What a change without a fault is. -/
theorem ch_ok {c : Chg} (h : chF c = 0) : (c.gone = true → c.value.kind = 0 ∧ ¬ unusedP c.value ∧ ¬ c.route = ⟨#[]⟩) ∧ checkE c.value = 0 ∧ routeOk false c.route = true := by
  unfold chF at h
  split at h
  · cases h
  · rename_i h1
    split at h
    · rename_i h2
      exact absurd h h2
    · rename_i h2
      split at h
      · cases h
      · rename_i h3
        refine ⟨fun hg => ⟨?_, ?_, ?_⟩, Classical.not_not.1 h2, by simpa using fun h => h3 (.inl h)⟩
        · exact Classical.byContradiction fun h => h1 ⟨hg, .inl h⟩
        · exact fun h => h1 ⟨hg, .inr h⟩
        · exact fun h => h3 (.inr ⟨hg, h⟩)
theorem out_fault {c : Chg} {v : Vu} (h : chF c = 0) (hv : faultE v = 0) : faultE (outS c v).1 = 0 ∧ (outS c v).1.wt ≤ v.wt + c.value.wt + 20000 := by
  obtain ⟨_, h1, h2⟩ := ch_ok h
  have hz : faultE Vu.zero = 0 := fault_empty 0 (.inl rfl)
  have hzw := zero_wt
  have hvw := wt_pos v
  unfold outS
  split
  · show faultE ((remS (stepsC c) v).getD .zero) = 0 ∧ ((remS (stepsC c) v).getD .zero).wt ≤ _
    cases hr : remS (stepsC c) v with
    | none => exact ⟨hz, by show (Vu.zero).wt ≤ _; omega⟩
    | some y =>
      refine ⟨remS_fault _ v y (steps_ok _) hv hr, ?_⟩
      have := remS_wt _ v y (steps_ok _) hv hr
      show y.wt ≤ _
      omega
  · refine ⟨setS_fault _ v c.value (steps_fine (parts_ok h2)) hv (check_ok h1), ?_⟩
    have h3 := setS_wt (stepsC c) v c.value (steps_ok _)
    have h4 : stW (stepsC c) ≤ 20000 := route_W h2
    omega
section
variable (E : Env)
set_option maxRecDepth 100000
set_option maxHeartbeats 8000000 in
theorem cApply_sp (hML : ∀ w, E.G w → ML w) (v : Vu) (l : List Chg) (hw : v.wt ≤ 2000000) (hl : (l.map Chg.wt).sum ≤ 2000000) : Sp (cx Tryz.prog mixed tyT_ok E) 9 [encV v, encGs l] (.tup [encV (appR v l).1, i64 (appR v l).2]) := by
  have hc := check_sp E v (by have := cnt_le_wt v; omega)
  have hck := @check_ok v
  have hll := len_wt l
  have hws := wsum_le l
  obtain ⟨r, hr⟩ : ∃ r, r = appR v l := ⟨_, rfl⟩
  rw [← hr]
  unfold appR at hr
  generalize checkE v = ev at hc hr hck
  by_cases h1 : ev = 0
  · have hfv := hck h1
    clear hck
    subst h1
    rw [if_neg (show ¬ ((0 : Int) ≠ 0) from fun h => h rfl)] at hr
    refine Sp.body Tryz.func9 (by kernel_rfl) rfl (by kernel_rfl) (by kernel_rfl) (by kernel_rfl) ?_
    repeat' first
      | (refine codeW_cond rfl ?_; first | (refine condW_dec ?_ ?_ <;> intro _ <;> try (exfalso; omega)) | refine condW_not ?_ | (refine condW_bool ?_ ?_ <;> intro _ <;> try (exfalso; omega)))
      | (refine facW_intro ?_; intro _)
      | refine Or.inl ?_
      | ((conv => whnf); first | (refine condW_dec ?_ ?_ <;> intro _ <;> try (exfalso; omega)) | refine condW_not ?_ | (refine condW_bool ?_ ?_ <;> intro _ <;> try (exfalso; omega)) | (refine nbC_t (fun _ => ?_) ?_) | (refine nbC_f ?_ (fun _ => ?_)))
      | refine And.intro (by first | omega | (simp only [Int.toNat_natCast] at *; omega) | (simp only [Nat.reduceAdd, Int.cast_ofNat_Int, true_and, and_true]; omega)  | kernel_rfl) ?_
      | refine RegW.run ?_
      | refine ⟨_, hc, ?_⟩
      | fail
    refine ⟨Nat, fun k => [(24, i64 k)], fun k => [], [2, 4], fun k => [], fun k => k ≤ l.length ∧ fltS l = fltS (l.drop k), fun k => l.length - k, ⟨0, ⟨by omega, rfl⟩, ⟨[], ⟨by kernel_rfl, by kernel_rfl, by kernel_rfl, by kernel_rfl, by kernel_rfl, by kernel_rfl, by kernel_rfl⟩, (by repeat' first | exact trivial | exact rfl | kernel_rfl | exact Dle.of_eq rfl | exact MLe.of_eq rfl | exact Dle.i (by omega) | exact Dle.i (by simp only [Int.toNat_natCast] at *; omega) | exact Dle.nil | exact Dle.rc Dle.nil | exact Option.some_ne_none _ | exact Or.inl rfl | exact Or.inr trivial | omega | (simp only [Int.toNat_natCast] at *; omega) | (intro _ _ _ _; exact Dle.of_eq rfl) | refine And.intro ?_ ?_)⟩⟩, fun k hk => ?_⟩
    obtain ⟨hk, hF⟩ := hk
    by_cases hlt : k < l.length
    · have hcf := changeFault_sp E hML (l.getD k default) (by have := wt_at l k hlt; omega)
      rw [fltS_drop hlt] at hF
      generalize chF (l.getD k default) = f at hcf hF
      clear hc
      by_cases hf0 : f = 0
      · subst hf0
        rw [if_neg (fun h => h rfl)] at hF
        repeat' first
          | (refine codeW_cond rfl ?_; first | (refine condW_dec ?_ ?_ <;> intro _ <;> try (exfalso; omega)) | refine condW_not ?_ | (refine condW_bool ?_ ?_ <;> intro _ <;> try (exfalso; omega)))
          | (refine facW_intro ?_; intro _)
          | refine Or.inl ?_
          | ((conv => whnf); first | (refine condW_dec ?_ ?_ <;> intro _ <;> try (exfalso; omega)) | refine condW_not ?_ | (refine condW_bool ?_ ?_ <;> intro _ <;> try (exfalso; omega)) | (refine nbC_t (fun _ => ?_) ?_) | (refine nbC_f ?_ (fun _ => ?_)))
          | refine And.intro (by first | omega | (simp only [Int.toNat_natCast] at *; omega) | (simp only [Nat.reduceAdd, Int.cast_ofNat_Int, true_and, and_true]; omega)  | kernel_rfl) ?_
          | refine RegW.run ?_
          | refine ⟨_, hcf, ?_⟩
          | fail
        all_goals first
          | (exfalso; omega)
          | exact ⟨k + 1, ⟨by omega, hF⟩, ⟨[], ⟨by kernel_rfl, by kernel_rfl, by kernel_rfl, by kernel_rfl, by kernel_rfl, by kernel_rfl, by kernel_rfl⟩, (by repeat' first | exact trivial | exact rfl | kernel_rfl | exact Dle.of_eq rfl | exact MLe.of_eq rfl | exact Dle.i (by omega) | exact Dle.i (by simp only [Int.toNat_natCast] at *; omega) | exact Dle.nil | exact Dle.rc Dle.nil | exact Option.some_ne_none _ | exact Or.inl rfl | exact Or.inr trivial | omega | (simp only [Int.toNat_natCast] at *; omega) | (intro _ _ _ _; exact Dle.of_eq rfl) | refine And.intro ?_ ?_)⟩, by first | omega | (dsimp only; omega)⟩
          | trace_state
      · rw [if_pos hf0] at hF
        rw [hF, if_pos hf0] at hr
        subst hr
        repeat' first
          | (refine codeW_cond rfl ?_; first | (refine condW_dec ?_ ?_ <;> intro _ <;> try (exfalso; omega)) | refine condW_not ?_ | (refine condW_bool ?_ ?_ <;> intro _ <;> try (exfalso; omega)))
          | (refine facW_intro ?_; intro _)
          | refine Or.inl ?_
          | ((conv => whnf); first | (refine condW_dec ?_ ?_ <;> intro _ <;> try (exfalso; omega)) | refine condW_not ?_ | (refine condW_bool ?_ ?_ <;> intro _ <;> try (exfalso; omega)) | (refine nbC_t (fun _ => ?_) ?_) | (refine nbC_f ?_ (fun _ => ?_)))
          | refine And.intro (by first | omega | (simp only [Int.toNat_natCast] at *; omega) | (simp only [Nat.reduceAdd, Int.cast_ofNat_Int, true_and, and_true]; omega)  | kernel_rfl) ?_
          | refine RegW.run ?_
          | refine ⟨_, hcf, ?_⟩
          | fail
        all_goals first
          | (exfalso; omega)
          | exact Dle.tup (X := (cx Tryz.prog mixed tyT_ok E)) ⟨zeroC E, Dle.refl _ _, trivial⟩
          | trace_state
    · rw [fltS_end (by omega)] at hF
      have hall := fltS_mem l hF
      rw [hF, if_neg (fun h => h rfl)] at hr
      clear hc hF
      repeat' first
        | (refine codeW_cond rfl ?_; first | (refine condW_dec ?_ ?_ <;> intro _ <;> try (exfalso; omega)) | refine condW_not ?_ | (refine condW_bool ?_ ?_ <;> intro _ <;> try (exfalso; omega)))
        | (refine facW_intro ?_; intro _)
        | refine Or.inl ?_
        | ((conv => whnf); first | (refine condW_dec ?_ ?_ <;> intro _ <;> try (exfalso; omega)) | refine condW_not ?_ | (refine condW_bool ?_ ?_ <;> intro _ <;> try (exfalso; omega)) | (refine nbC_t (fun _ => ?_) ?_) | (refine nbC_f ?_ (fun _ => ?_)))
        | refine And.intro (by first | omega | (simp only [Int.toNat_natCast] at *; omega) | (simp only [Nat.reduceAdd, Int.cast_ofNat_Int, true_and, and_true]; omega)  | kernel_rfl) ?_
        | refine RegW.run ?_
        | fail
      refine ⟨Nat × Vu, fun k => [(37, i64 k.1)], fun k => [(2, .cells [i64 k.2.kind, dB k.2.b, i64 k.2.i, dS k.2.text, .rc (.vals k.2.items), encStrs k.2.keys])], [4], fun k => [], fun k => k.1 ≤ l.length ∧ faultE k.2 = 0 ∧ k.2.wt + wsum (l.drop k.1) ≤ v.wt + wsum l ∧ appS l v = appS (l.drop k.1) k.2, fun k => l.length - k.1, ⟨(0, v), ⟨by omega, hfv, Nat.le_refl _, rfl⟩, ⟨[], ⟨by kernel_rfl, by kernel_rfl, by kernel_rfl, by kernel_rfl, by kernel_rfl, by kernel_rfl, by kernel_rfl⟩, (by repeat' first | exact trivial | exact rfl | kernel_rfl | exact Dle.of_eq rfl | exact MLe.of_eq rfl | exact Dle.i (by omega) | exact Dle.i (by simp only [Int.toNat_natCast] at *; omega) | exact Dle.nil | exact Dle.rc Dle.nil | exact Option.some_ne_none _ | exact Or.inl rfl | exact Or.inr trivial | omega | (simp only [Int.toNat_natCast] at *; omega) | (intro _ _ _ _; exact Dle.of_eq rfl) | refine And.intro ?_ ?_)⟩⟩, fun k hk => ?_⟩
      obtain ⟨hk1, hk2, hk3, hk4⟩ := hk
      by_cases hlt : k.1 < l.length
      · have hcm := hall _ (getD_mem l default k.1 hlt)
        obtain ⟨g1, g2, g3⟩ := ch_ok hcm
        obtain ⟨o1, o2⟩ := out_fault hcm hk2
        have hst := steps_sp E hML (l.getD k.1 default).route false (by have h1 := wt_at l k.1 hlt; have h2 : (l.getD k.1 default).wt = (l.getD k.1 default).route.size + 1 + (l.getD k.1 default).value.wt := rfl; omega)
        rw [g3, if_pos rfl] at hst
        rw [wsum_drop hlt] at hk3
        rw [appS_drop hlt] at hk4
        cases hg : (l.getD k.1 default).gone with
        | true =>
          have hne : stepsC (l.getD k.1 default) ≠ [] := fun h => (g1 hg).2.2 ((route_nil g3).1 (by show (stepsC (l.getD k.1 default)).length = 0; rw [h]; rfl))
          have hrm := remove_sp E (stepsC (l.getD k.1 default)) k.2 hne (steps_ok _) hk2 (by omega)
          have e1 : outS (l.getD k.1 default) k.2 = ((remS (stepsC (l.getD k.1 default)) k.2).getD .zero, if (remS (stepsC (l.getD k.1 default)) k.2).isSome = true then 0 else 7) := by unfold outS; rw [if_pos hg]
          rw [e1] at o1 o2 hk4
          generalize hQ : (remS (stepsC (l.getD k.1 default)) k.2) = Q at hrm o1 o2 hk4
          cases Q with
          | none =>
            have hk4 : appS l v = (.zero, 7) := hk4
            have hrm : Sp (cx Tryz.prog mixed tyT_ok E) _ _ (.tup [encV .zero, i64 7]) := hrm
            rw [hk4, if_pos (show ((Vu.zero, (7 : Int)).2 ≠ 0) from by decide)] at hr
            subst hr
            repeat' first
              | (refine codeW_cond rfl ?_; first | (refine condW_dec ?_ ?_ <;> intro _ <;> try (exfalso; first | omega | (rename_i h; exact absurd (hg.symm.trans h) (by decide)))) | refine condW_not ?_ | (refine condW_bool ?_ ?_ <;> intro _ <;> try (exfalso; first | omega | (rename_i h; exact absurd (hg.symm.trans h) (by decide)))))
              | (refine facW_intro ?_; intro _)
              | refine Or.inl ?_
              | ((conv => whnf); first | (refine condW_dec ?_ ?_ <;> intro _ <;> try (exfalso; first | omega | (rename_i h; exact absurd (hg.symm.trans h) (by decide)))) | refine condW_not ?_ | (refine condW_bool ?_ ?_ <;> intro _ <;> try (exfalso; first | omega | (rename_i h; exact absurd (hg.symm.trans h) (by decide)))) | (refine nbC_t (fun _ => ?_) ?_) | (refine nbC_f ?_ (fun _ => ?_)))
              | refine And.intro (by first | omega | (simp only [Int.toNat_natCast] at *; omega) | (simp only [Nat.reduceAdd, Int.cast_ofNat_Int, true_and, and_true]; omega)  | kernel_rfl) ?_
              | refine RegW.run ?_
              | refine ⟨_, hst, ?_⟩
              | refine ⟨_, hrm, ?_⟩
              | fail
            all_goals first
              | (exfalso; omega)
              | exact Dle.tup (X := (cx Tryz.prog mixed tyT_ok E)) ⟨zeroC E, Dle.refl _ _, trivial⟩
              | trace_state
          | some y =>
            have hk4 : appS l v = appS (l.drop (k.1 + 1)) y := hk4
            have hrm : Sp (cx Tryz.prog mixed tyT_ok E) _ _ (.tup [encV y, i64 0]) := hrm
            have o2 : y.wt ≤ k.2.wt + (l.getD k.1 default).value.wt + 20000 := o2
            repeat' first
              | (refine codeW_cond rfl ?_; first | (refine condW_dec ?_ ?_ <;> intro _ <;> try (exfalso; first | omega | (rename_i h; exact absurd (hg.symm.trans h) (by decide)))) | refine condW_not ?_ | (refine condW_bool ?_ ?_ <;> intro _ <;> try (exfalso; first | omega | (rename_i h; exact absurd (hg.symm.trans h) (by decide)))))
              | (refine facW_intro ?_; intro _)
              | refine Or.inl ?_
              | ((conv => whnf); first | (refine condW_dec ?_ ?_ <;> intro _ <;> try (exfalso; first | omega | (rename_i h; exact absurd (hg.symm.trans h) (by decide)))) | refine condW_not ?_ | (refine condW_bool ?_ ?_ <;> intro _ <;> try (exfalso; first | omega | (rename_i h; exact absurd (hg.symm.trans h) (by decide)))) | (refine nbC_t (fun _ => ?_) ?_) | (refine nbC_f ?_ (fun _ => ?_)))
              | refine And.intro (by first | omega | (simp only [Int.toNat_natCast] at *; omega) | (simp only [Nat.reduceAdd, Int.cast_ofNat_Int, true_and, and_true]; omega)  | kernel_rfl) ?_
              | refine RegW.run ?_
              | refine ⟨_, hst, ?_⟩
              | refine ⟨_, hrm, ?_⟩
              | fail
            all_goals first
              | (exfalso; omega)
              | exact ⟨(k.1 + 1, y), ⟨by dsimp only; omega, o1, by dsimp only; omega, hk4⟩, ⟨[], ⟨by kernel_rfl, by kernel_rfl, by kernel_rfl, by kernel_rfl, by kernel_rfl, by kernel_rfl, by kernel_rfl⟩, (by repeat' first | exact trivial | exact rfl | kernel_rfl | exact Dle.of_eq rfl | exact MLe.of_eq rfl | exact Dle.i (by omega) | exact Dle.i (by simp only [Int.toNat_natCast] at *; omega) | exact Dle.nil | exact Dle.rc Dle.nil | exact Option.some_ne_none _ | exact Or.inl rfl | exact Or.inr trivial | omega | (simp only [Int.toNat_natCast] at *; omega) | (intro _ _ _ _; exact Dle.of_eq rfl) | refine And.intro ?_ ?_)⟩, by first | omega | (dsimp only; omega)⟩
              | trace_state
        | false =>
          have hse := set_sp E (stepsC (l.getD k.1 default)) k.2 (l.getD k.1 default).value (steps_ok _) hk2 (by omega)
          have e1 : outS (l.getD k.1 default) k.2 = setS (stepsC (l.getD k.1 default)) k.2 (l.getD k.1 default).value := by unfold outS; rw [if_neg (by rw [hg]; decide)]
          rw [e1] at o1 o2 hk4
          generalize setS (stepsC (l.getD k.1 default)) k.2 (l.getD k.1 default).value = Q at hse o1 o2 hk4
          obtain ⟨y, e⟩ := Q
          by_cases he : e = 0
          · subst he
            have hk4 : appS l v = appS (l.drop (k.1 + 1)) y := hk4.trans (if_neg (fun h => h rfl))
            have o2 : y.wt ≤ k.2.wt + (l.getD k.1 default).value.wt + 20000 := o2
            repeat' first
              | (refine codeW_cond rfl ?_; first | (refine condW_dec ?_ ?_ <;> intro _ <;> try (exfalso; first | omega | (rename_i h; exact absurd (hg.symm.trans h) (by decide)))) | refine condW_not ?_ | (refine condW_bool ?_ ?_ <;> intro _ <;> try (exfalso; first | omega | (rename_i h; exact absurd (hg.symm.trans h) (by decide)))))
              | (refine facW_intro ?_; intro _)
              | refine Or.inl ?_
              | ((conv => whnf); first | (refine condW_dec ?_ ?_ <;> intro _ <;> try (exfalso; first | omega | (rename_i h; exact absurd (hg.symm.trans h) (by decide)))) | refine condW_not ?_ | (refine condW_bool ?_ ?_ <;> intro _ <;> try (exfalso; first | omega | (rename_i h; exact absurd (hg.symm.trans h) (by decide)))) | (refine nbC_t (fun _ => ?_) ?_) | (refine nbC_f ?_ (fun _ => ?_)))
              | refine And.intro (by first | omega | (simp only [Int.toNat_natCast] at *; omega) | (simp only [Nat.reduceAdd, Int.cast_ofNat_Int, true_and, and_true]; omega)  | kernel_rfl) ?_
              | refine RegW.run ?_
              | refine ⟨_, hst, ?_⟩
              | refine ⟨_, hse, ?_⟩
              | fail
            all_goals first
              | (exfalso; omega)
              | exact ⟨(k.1 + 1, y), ⟨by dsimp only; omega, o1, by dsimp only; omega, hk4⟩, ⟨[], ⟨by kernel_rfl, by kernel_rfl, by kernel_rfl, by kernel_rfl, by kernel_rfl, by kernel_rfl, by kernel_rfl⟩, (by repeat' first | exact trivial | exact rfl | kernel_rfl | exact Dle.of_eq rfl | exact MLe.of_eq rfl | exact Dle.i (by omega) | exact Dle.i (by simp only [Int.toNat_natCast] at *; omega) | exact Dle.nil | exact Dle.rc Dle.nil | exact Option.some_ne_none _ | exact Or.inl rfl | exact Or.inr trivial | omega | (simp only [Int.toNat_natCast] at *; omega) | (intro _ _ _ _; exact Dle.of_eq rfl) | refine And.intro ?_ ?_)⟩, by first | omega | (dsimp only; omega)⟩
              | trace_state
          · have hk4 : appS l v = (.zero, e) := hk4.trans (if_pos he)
            rw [hk4, if_pos (show ((Vu.zero, e).2 ≠ 0) from he)] at hr
            subst hr
            repeat' first
              | (refine codeW_cond rfl ?_; first | (refine condW_dec ?_ ?_ <;> intro _ <;> try (exfalso; first | omega | (rename_i h; exact absurd (hg.symm.trans h) (by decide)))) | refine condW_not ?_ | (refine condW_bool ?_ ?_ <;> intro _ <;> try (exfalso; first | omega | (rename_i h; exact absurd (hg.symm.trans h) (by decide)))))
              | (refine facW_intro ?_; intro _)
              | refine Or.inl ?_
              | ((conv => whnf); first | (refine condW_dec ?_ ?_ <;> intro _ <;> try (exfalso; first | omega | (rename_i h; exact absurd (hg.symm.trans h) (by decide)))) | refine condW_not ?_ | (refine condW_bool ?_ ?_ <;> intro _ <;> try (exfalso; first | omega | (rename_i h; exact absurd (hg.symm.trans h) (by decide)))) | (refine nbC_t (fun _ => ?_) ?_) | (refine nbC_f ?_ (fun _ => ?_)))
              | refine And.intro (by first | omega | (simp only [Int.toNat_natCast] at *; omega) | (simp only [Nat.reduceAdd, Int.cast_ofNat_Int, true_and, and_true]; omega)  | kernel_rfl) ?_
              | refine RegW.run ?_
              | refine ⟨_, hst, ?_⟩
              | refine ⟨_, hse, ?_⟩
              | fail
            all_goals first
              | (exfalso; omega)
              | exact Dle.tup (X := (cx Tryz.prog mixed tyT_ok E)) ⟨zeroC E, Dle.refl _ _, trivial⟩
              | trace_state
      · rw [appS_end (by omega)] at hk4
        rw [hk4, if_neg (show ¬ ((k.2, (0 : Int)).2 ≠ 0) from fun h => h rfl)] at hr
        have hr : r = if checkE k.2 ≠ 0 then (.zero, checkE k.2) else (k.2, 0) := hr
        have hcy := check_sp E k.2 (by have := cnt_le_wt k.2; omega)
        have hcl := clone_sp E _ k.2 (Nat.lt_succ_self _) (by omega)
        generalize checkE k.2 = ey at hcy hr
        by_cases hy : ey = 0
        · subst hy
          have hr := hr.trans (if_neg (fun h => h rfl))
          subst hr
          repeat' first
            | (refine codeW_cond rfl ?_; first | (refine condW_dec ?_ ?_ <;> intro _ <;> try (exfalso; omega)) | refine condW_not ?_ | (refine condW_bool ?_ ?_ <;> intro _ <;> try (exfalso; omega)))
            | (refine facW_intro ?_; intro _)
            | refine Or.inl ?_
            | ((conv => whnf); first | (refine condW_dec ?_ ?_ <;> intro _ <;> try (exfalso; omega)) | refine condW_not ?_ | (refine condW_bool ?_ ?_ <;> intro _ <;> try (exfalso; omega)) | (refine nbC_t (fun _ => ?_) ?_) | (refine nbC_f ?_ (fun _ => ?_)))
            | refine And.intro (by first | omega | (simp only [Int.toNat_natCast] at *; omega) | (simp only [Nat.reduceAdd, Int.cast_ofNat_Int, true_and, and_true]; omega)  | kernel_rfl) ?_
            | refine RegW.run ?_
            | refine ⟨_, hcy, ?_⟩
            | refine ⟨_, hcl, ?_⟩
            | fail
          all_goals first
            | (exfalso; omega)
            | exact Dle.tup (X := (cx Tryz.prog mixed tyT_ok E)) ⟨Dle.refl _ _, Dle.refl _ _, trivial⟩
            | trace_state
        · have hr := hr.trans (if_pos hy)
          subst hr
          repeat' first
            | (refine codeW_cond rfl ?_; first | (refine condW_dec ?_ ?_ <;> intro _ <;> try (exfalso; omega)) | refine condW_not ?_ | (refine condW_bool ?_ ?_ <;> intro _ <;> try (exfalso; omega)))
            | (refine facW_intro ?_; intro _)
            | refine Or.inl ?_
            | ((conv => whnf); first | (refine condW_dec ?_ ?_ <;> intro _ <;> try (exfalso; omega)) | refine condW_not ?_ | (refine condW_bool ?_ ?_ <;> intro _ <;> try (exfalso; omega)) | (refine nbC_t (fun _ => ?_) ?_) | (refine nbC_f ?_ (fun _ => ?_)))
            | refine And.intro (by first | omega | (simp only [Int.toNat_natCast] at *; omega) | (simp only [Nat.reduceAdd, Int.cast_ofNat_Int, true_and, and_true]; omega)  | kernel_rfl) ?_
            | refine RegW.run ?_
            | refine ⟨_, hcy, ?_⟩
            | fail
          all_goals first
            | (exfalso; omega)
            | exact Dle.tup (X := (cx Tryz.prog mixed tyT_ok E)) ⟨zeroC E, Dle.refl _ _, trivial⟩
            | trace_state
  · rw [if_pos h1] at hr
    subst hr
    refine Sp.body Tryz.func9 (by kernel_rfl) rfl (by kernel_rfl) (by kernel_rfl) (by kernel_rfl) ?_
    repeat' first
      | (refine codeW_cond rfl ?_; first | (refine condW_dec ?_ ?_ <;> intro _ <;> try (exfalso; omega)) | refine condW_not ?_ | (refine condW_bool ?_ ?_ <;> intro _ <;> try (exfalso; omega)))
      | (refine facW_intro ?_; intro _)
      | refine Or.inl ?_
      | ((conv => whnf); first | (refine condW_dec ?_ ?_ <;> intro _ <;> try (exfalso; omega)) | refine condW_not ?_ | (refine condW_bool ?_ ?_ <;> intro _ <;> try (exfalso; omega)) | (refine nbC_t (fun _ => ?_) ?_) | (refine nbC_f ?_ (fun _ => ?_)))
      | refine And.intro (by first | omega | (simp only [Int.toNat_natCast] at *; omega) | (simp only [Nat.reduceAdd, Int.cast_ofNat_Int, true_and, and_true]; omega)  | kernel_rfl) ?_
      | refine RegW.run ?_
      | refine ⟨_, hc, ?_⟩
      | fail
    all_goals first
      | (exfalso; omega)
      | exact Dle.tup (X := (cx Tryz.prog mixed tyT_ok E)) ⟨zeroC E, Dle.refl _ _, trivial⟩
      | trace_state
end
end ap
end Go.Proofs.YtjbgafbijamckaaGreatDoor
