/-
  Conditions that hold: the reference's side, the law.
-/
import Derived.Test.YtkjflkbjepdaaaaGreatDoorY2
import Derived.Test.YtkjflkbjepdaaaaGreatDoorW5
namespace Go.Proofs.YtkjflkbjepdaaaaGreatDoor
open Go.RowKit
set_option linter.unusedVariables false
set_option linter.unusedSimpArgs false
abbrev refV (v : Vu) : DD := .ref 6 (fun j => ([i64 v.kind, dB v.b, i64 v.i, dS v.text, .rc (.vals v.items), encStrs v.keys] : List DD).getD (0 + j) .opq)
abbrev refC (c : Cd) : DD := .ref 9 (fun j => ([i64 c.op, dS c.route, i64 c.value.kind, dB c.value.b, i64 c.value.i, dS c.value.text, .rc (.vals c.value.items), encStrs c.value.keys, .rc (.conds c.kids)] : List DD).getD (0 + j) .opq)
def holdsE (c : Cd) (v : Vu) : Bool × Int := if condCheck c ≠ 0 then (false, condCheck c) else if itemCheckE v ≠ 0 then (false, itemCheckE v) else (hold v c, 0)
theorem condCheck_ok {c : Cd} (h : condCheck c = 0) : condE c = 0 := by unfold condCheck at h; grind
theorem among_turn (l : List Vu) (y : Vu) : amongB l y = l.any (fun x => decide (cmpV y x = 0)) := by
  unfold amongB
  congr 1
  funext x
  have h1 := cmpV_same x y
  have h2 := cmpV_same y x
  rw [decide_eq_decide, h1, h2]
  exact eq_comm
section
variable (E : Env)
set_option maxRecDepth 100000
theorem lHoldsFn_sp (hML : ∀ w, E.G w → ML w) (c : Cd) (v : Vu) (hw : c.wt ≤ 100000000) (hb : cnt v ≤ 1000000000000) : Sp (cx Tryz.prog mixed tyT_ok E) 9 [encC c, encV v] (.tup [dB (holdsE c v).1, i64 (holdsE c v).2]) := by
  have h1 := checkCond_sp E c hw
  have h2 := checkItem_sp E v (by omega)
  obtain ⟨r, hr⟩ : ∃ r, r = holdsE c v := ⟨_, rfl⟩
  rw [← hr]
  unfold holdsE at hr
  have h3 := fun (hv : itemCheckE v = 0) (hc : condCheck c = 0) => lHolds_sp E hML v (itemCheck_ok hv) _ c (Nat.lt_succ_self _) hw (condCheck_ok hc)
  generalize condCheck c = a at hr h1 h3
  generalize itemCheckE v = b at hr h2 h3
  generalize hold v c = q at hr h3
  by_cases ha : a = 0
  · by_cases hb : b = 0
    · have h3 := h3 hb ha
      rw [ha, hb] at hr
      simp only [ne_eq, not_true_eq_false, if_false] at hr
      subst hr
      refine Sp.body Tryz.func9 (by kernel_rfl) rfl (by kernel_rfl) (by kernel_rfl) (by kernel_rfl) ?_
      repeat' first
        | (refine facW_intro ?_; intro _)
        | refine Or.inl ?_
        | ((conv => whnf); first | (refine condW_dec ?_ ?_ <;> intro _ <;> try (exfalso; omega)) | refine condW_not ?_ | (refine condW_bool ?_ ?_ <;> intro _ <;> try (exfalso; omega)) | (refine nbC_t (fun _ => ?_) ?_) | (refine nbC_f ?_ (fun _ => ?_)))
        | refine And.intro (by first | omega | (simp only [Int.toNat_natCast] at *; omega) | (simp only [Nat.reduceAdd, Int.cast_ofNat_Int, true_and, and_true]; omega) | kernel_rfl) ?_
        | refine RegW.run ?_
        | refine ⟨_, h1, ?_⟩
        | refine ⟨_, h2, ?_⟩
        | refine ⟨_, h3, ?_⟩
        | fail
      all_goals first
        | exact Dle.refl _ _
        | trace_state
    · rw [ha, if_neg (by simp), if_pos hb] at hr
      subst hr
      refine Sp.body Tryz.func9 (by kernel_rfl) rfl (by kernel_rfl) (by kernel_rfl) (by kernel_rfl) ?_
      repeat' first
        | (refine facW_intro ?_; intro _)
        | refine Or.inl ?_
        | ((conv => whnf); first | (refine condW_dec ?_ ?_ <;> intro _ <;> try (exfalso; omega)) | refine condW_not ?_ | (refine condW_bool ?_ ?_ <;> intro _ <;> try (exfalso; omega)) | (refine nbC_t (fun _ => ?_) ?_) | (refine nbC_f ?_ (fun _ => ?_)))
        | refine And.intro (by first | omega | (simp only [Int.toNat_natCast] at *; omega) | (simp only [Nat.reduceAdd, Int.cast_ofNat_Int, true_and, and_true]; omega) | kernel_rfl) ?_
        | refine RegW.run ?_
        | refine ⟨_, h1, ?_⟩
        | refine ⟨_, h2, ?_⟩
        | fail
      all_goals first
        | exact Dle.refl _ _
        | trace_state
  · rw [if_pos ha] at hr
    subst hr
    refine Sp.body Tryz.func9 (by kernel_rfl) rfl (by kernel_rfl) (by kernel_rfl) (by kernel_rfl) ?_
    repeat' first
      | (refine facW_intro ?_; intro _)
      | refine Or.inl ?_
      | ((conv => whnf); first | (refine condW_dec ?_ ?_ <;> intro _ <;> try (exfalso; omega)) | refine condW_not ?_ | (refine condW_bool ?_ ?_ <;> intro _ <;> try (exfalso; omega)) | (refine nbC_t (fun _ => ?_) ?_) | (refine nbC_f ?_ (fun _ => ?_)))
      | refine And.intro (by first | omega | (simp only [Int.toNat_natCast] at *; omega) | (simp only [Nat.reduceAdd, Int.cast_ofNat_Int, true_and, and_true]; omega) | kernel_rfl) ?_
      | refine RegW.run ?_
      | refine ⟨_, h1, ?_⟩
      | refine ⟨_, h2, ?_⟩
      | fail
    all_goals first
      | exact Dle.refl _ _
      | trace_state
theorem sameOf_sp (a b : Vu) : Sp (cx Tryz.prog mixed tyT_ok E) 17 [encV a, encV b] (dB (decide (cmpV a b = 0))) := by
  have h1 := compareOf_sp E _ a b (Nat.lt_succ_self _)
  generalize cmpV a b = r at h1
  refine Sp.body Tryz.func17 (by kernel_rfl) rfl (by kernel_rfl) (by kernel_rfl) (by kernel_rfl) ?_
  repeat' first
    | (refine facW_intro ?_; intro _)
    | refine Or.inl ?_
    | ((conv => whnf); first | (refine condW_dec ?_ ?_ <;> intro _) | refine condW_not ?_ | (refine condW_bool ?_ ?_ <;> intro _) | (refine nbC_t (fun _ => ?_) ?_) | (refine nbC_f ?_ (fun _ => ?_)))
    | refine And.intro (by first | omega | (simp only [Int.toNat_natCast] at *; omega) | (simp only [Nat.reduceAdd, Int.cast_ofNat_Int, true_and, and_true]; omega) | kernel_rfl) ?_
    | refine RegW.run ?_
    | refine ⟨_, h1, ?_⟩
    | fail
  all_goals exact Dle.refl _ _
theorem indexFC_sp (fi : FuncId) (n : Nat) (g : Nat → DD) (p : Cd → Bool) (l : List Cd) (h : ∀ x ∈ l, Sp (cx Tryz.prog mixed tyT_ok E) fi [encC x, .ref n g] (dB (p x))) : Sp (cx Tryz.prog mixed tyT_ok E) 126 [.rc (.conds l), .fn fi [.ref n g]] (i64 (idxF .zero p l 0)) := by
  obtain ⟨r, hr⟩ : ∃ r, r = idxF .zero p l 0 := ⟨_, rfl⟩
  rw [← hr]
  refine Sp.body Tryz.func126 (by kernel_rfl) rfl (by kernel_rfl) (by kernel_rfl) (by kernel_rfl) ?_
  repeat' first
    | (refine facW_intro ?_; intro _)
    | refine Or.inl ?_
    | ((conv => whnf); first | (refine condW_dec ?_ ?_ <;> intro _) | refine condW_not ?_ | (refine condW_bool ?_ ?_ <;> intro _) | (refine nbC_t (fun _ => ?_) ?_) | (refine nbC_f ?_ (fun _ => ?_)))
    | refine And.intro (by first | omega | (simp only [Int.toNat_natCast] at *; omega) | (simp only [Nat.reduceAdd, Int.cast_ofNat_Int, true_and, and_true]; omega) | kernel_rfl) ?_
    | refine RegW.run ?_
    | fail
  refine ⟨Nat, fun k => [(8, i64 k)], fun k => [], [], fun k => [], fun k => k ≤ l.length ∧ r = idxF .zero p l k, fun k => l.length - k, ⟨0, ⟨by omega, hr⟩, ⟨[], ⟨by kernel_rfl, by kernel_rfl, by kernel_rfl, by kernel_rfl, by kernel_rfl, by kernel_rfl, by kernel_rfl⟩, (by repeat' first | exact trivial | exact rfl | kernel_rfl | exact Dle.of_eq rfl | exact MLe.of_eq rfl | exact Dle.i (by omega) | exact Dle.i (by simp only [Int.toNat_natCast] at *; omega) | exact Dle.nil | exact Dle.rc Dle.nil | exact Option.some_ne_none _ | exact Or.inl rfl | exact Or.inr trivial | omega | (simp only [Int.toNat_natCast] at *; omega) | (intro _ _ _ _; exact Dle.of_eq rfl) | refine And.intro ?_ ?_)⟩⟩, fun k hk => ?_⟩
  obtain ⟨hk, hK⟩ := hk
  rw [idxF] at hK
  by_cases hlt : k < l.length
  · rw [if_pos hlt] at hK
    have h1 := h _ (getD_mem l .zero k hlt)
    generalize p (l.getD k .zero) = b at h1 hK
    repeat' first
      | (refine facW_intro ?_; intro _)
      | refine Or.inl ?_
      | ((conv => whnf); first | (refine condW_dec ?_ ?_ <;> intro _ <;> try (exfalso; omega)) | refine condW_not ?_ | (refine condW_bool ?_ ?_ <;> intro _ <;> try (exfalso; omega)) | (refine nbC_t (fun _ => ?_) ?_) | (refine nbC_f ?_ (fun _ => ?_)))
      | refine And.intro (by first | omega | (simp only [Int.toNat_natCast] at *; omega) | (simp only [Nat.reduceAdd, Int.cast_ofNat_Int, true_and, and_true]; omega) | kernel_rfl) ?_
      | refine RegW.run ?_
      | refine ⟨_, h1, ?_⟩
      | fail
    all_goals first
      | exact ⟨k + 1, ⟨by omega, by rw [hK]; simp_all⟩, ⟨[], ⟨by kernel_rfl, by kernel_rfl, by kernel_rfl, by kernel_rfl, by kernel_rfl, by kernel_rfl, by kernel_rfl⟩, (by repeat' first | exact trivial | exact rfl | kernel_rfl | exact Dle.of_eq rfl | exact MLe.of_eq rfl | exact Dle.i (by omega) | exact Dle.i (by simp only [Int.toNat_natCast] at *; omega) | exact Dle.nil | exact Dle.rc Dle.nil | exact Option.some_ne_none _ | exact Or.inl rfl | exact Or.inr trivial | omega | (simp only [Int.toNat_natCast] at *; omega) | (intro _ _ _ _; exact Dle.of_eq rfl) | refine And.intro ?_ ?_)⟩, by first | omega | (dsimp only; omega)⟩
      | exact Dle.i (by rw [hK]; simp_all)
      | trace_state
  · rw [if_neg hlt] at hK
    repeat' first
      | (refine facW_intro ?_; intro _)
      | refine Or.inl ?_
      | ((conv => whnf); first | (refine condW_dec ?_ ?_ <;> intro _ <;> try (exfalso; omega)) | refine condW_not ?_ | (refine condW_bool ?_ ?_ <;> intro _ <;> try (exfalso; omega)) | (refine nbC_t (fun _ => ?_) ?_) | (refine nbC_f ?_ (fun _ => ?_)))
      | refine And.intro (by first | omega | (simp only [Int.toNat_natCast] at *; omega) | (simp only [Nat.reduceAdd, Int.cast_ofNat_Int, true_and, and_true]; omega) | kernel_rfl) ?_
      | refine RegW.run ?_
      | fail
    exact Dle.i (by rw [hK])
theorem containsFC_sp (fi : FuncId) (n : Nat) (g : Nat → DD) (p : Cd → Bool) (l : List Cd) (h : ∀ x ∈ l, Sp (cx Tryz.prog mixed tyT_ok E) fi [encC x, .ref n g] (dB (p x))) : Sp (cx Tryz.prog mixed tyT_ok E) 72 [.rc (.conds l), .fn fi [.ref n g]] (dB (l.any p)) := by
  have hi := indexFC_sp E fi n g p l h
  have e := idxF_any .zero p l (l.length + 1) 0 (by omega)
  rw [List.drop_zero] at e
  rw [← e]
  generalize idxF .zero p l 0 = r at hi
  refine Sp.body Tryz.func72 (by kernel_rfl) rfl (by kernel_rfl) (by kernel_rfl) (by kernel_rfl) ?_
  repeat' first
    | (refine facW_intro ?_; intro _)
    | refine Or.inl ?_
    | ((conv => whnf); first | (refine condW_dec ?_ ?_ <;> intro _) | refine condW_not ?_ | (refine condW_bool ?_ ?_ <;> intro _) | (refine nbC_t (fun _ => ?_) ?_) | (refine nbC_f ?_ (fun _ => ?_)))
    | refine And.intro (by first | omega | (simp only [Int.toNat_natCast] at *; omega) | (simp only [Nat.reduceAdd, Int.cast_ofNat_Int, true_and, and_true]; omega) | kernel_rfl) ?_
    | refine RegW.run ?_
    | refine ⟨_, hi, ?_⟩
    | fail
  all_goals exact Dle.refl _ _
theorem indexFV_sp (fi : FuncId) (n : Nat) (g : Nat → DD) (p : Vu → Bool) (l : List Vu) (h : ∀ x ∈ l, Sp (cx Tryz.prog mixed tyT_ok E) fi [encV x, .ref n g] (dB (p x))) : Sp (cx Tryz.prog mixed tyT_ok E) 127 [.rc (.vals l), .fn fi [.ref n g]] (i64 (idxF .zero p l 0)) := by
  obtain ⟨r, hr⟩ : ∃ r, r = idxF .zero p l 0 := ⟨_, rfl⟩
  rw [← hr]
  refine Sp.body Tryz.func127 (by kernel_rfl) rfl (by kernel_rfl) (by kernel_rfl) (by kernel_rfl) ?_
  repeat' first
    | (refine facW_intro ?_; intro _)
    | refine Or.inl ?_
    | ((conv => whnf); first | (refine condW_dec ?_ ?_ <;> intro _) | refine condW_not ?_ | (refine condW_bool ?_ ?_ <;> intro _) | (refine nbC_t (fun _ => ?_) ?_) | (refine nbC_f ?_ (fun _ => ?_)))
    | refine And.intro (by first | omega | (simp only [Int.toNat_natCast] at *; omega) | (simp only [Nat.reduceAdd, Int.cast_ofNat_Int, true_and, and_true]; omega) | kernel_rfl) ?_
    | refine RegW.run ?_
    | fail
  refine ⟨Nat, fun k => [(8, i64 k)], fun k => [], [], fun k => [], fun k => k ≤ l.length ∧ r = idxF .zero p l k, fun k => l.length - k, ⟨0, ⟨by omega, hr⟩, ⟨[], ⟨by kernel_rfl, by kernel_rfl, by kernel_rfl, by kernel_rfl, by kernel_rfl, by kernel_rfl, by kernel_rfl⟩, (by repeat' first | exact trivial | exact rfl | kernel_rfl | exact Dle.of_eq rfl | exact MLe.of_eq rfl | exact Dle.i (by omega) | exact Dle.i (by simp only [Int.toNat_natCast] at *; omega) | exact Dle.nil | exact Dle.rc Dle.nil | exact Option.some_ne_none _ | exact Or.inl rfl | exact Or.inr trivial | omega | (simp only [Int.toNat_natCast] at *; omega) | (intro _ _ _ _; exact Dle.of_eq rfl) | refine And.intro ?_ ?_)⟩⟩, fun k hk => ?_⟩
  obtain ⟨hk, hK⟩ := hk
  rw [idxF] at hK
  by_cases hlt : k < l.length
  · rw [if_pos hlt] at hK
    have h1 := h _ (getD_mem l .zero k hlt)
    generalize p (l.getD k .zero) = b at h1 hK
    repeat' first
      | (refine facW_intro ?_; intro _)
      | refine Or.inl ?_
      | ((conv => whnf); first | (refine condW_dec ?_ ?_ <;> intro _ <;> try (exfalso; omega)) | refine condW_not ?_ | (refine condW_bool ?_ ?_ <;> intro _ <;> try (exfalso; omega)) | (refine nbC_t (fun _ => ?_) ?_) | (refine nbC_f ?_ (fun _ => ?_)))
      | refine And.intro (by first | omega | (simp only [Int.toNat_natCast] at *; omega) | (simp only [Nat.reduceAdd, Int.cast_ofNat_Int, true_and, and_true]; omega) | kernel_rfl) ?_
      | refine RegW.run ?_
      | refine ⟨_, h1, ?_⟩
      | fail
    all_goals first
      | exact ⟨k + 1, ⟨by omega, by rw [hK]; simp_all⟩, ⟨[], ⟨by kernel_rfl, by kernel_rfl, by kernel_rfl, by kernel_rfl, by kernel_rfl, by kernel_rfl, by kernel_rfl⟩, (by repeat' first | exact trivial | exact rfl | kernel_rfl | exact Dle.of_eq rfl | exact MLe.of_eq rfl | exact Dle.i (by omega) | exact Dle.i (by simp only [Int.toNat_natCast] at *; omega) | exact Dle.nil | exact Dle.rc Dle.nil | exact Option.some_ne_none _ | exact Or.inl rfl | exact Or.inr trivial | omega | (simp only [Int.toNat_natCast] at *; omega) | (intro _ _ _ _; exact Dle.of_eq rfl) | refine And.intro ?_ ?_)⟩, by first | omega | (dsimp only; omega)⟩
      | exact Dle.i (by rw [hK]; simp_all)
      | trace_state
  · rw [if_neg hlt] at hK
    repeat' first
      | (refine facW_intro ?_; intro _)
      | refine Or.inl ?_
      | ((conv => whnf); first | (refine condW_dec ?_ ?_ <;> intro _ <;> try (exfalso; omega)) | refine condW_not ?_ | (refine condW_bool ?_ ?_ <;> intro _ <;> try (exfalso; omega)) | (refine nbC_t (fun _ => ?_) ?_) | (refine nbC_f ?_ (fun _ => ?_)))
      | refine And.intro (by first | omega | (simp only [Int.toNat_natCast] at *; omega) | (simp only [Nat.reduceAdd, Int.cast_ofNat_Int, true_and, and_true]; omega) | kernel_rfl) ?_
      | refine RegW.run ?_
      | fail
    exact Dle.i (by rw [hK])
theorem containsFV_sp (fi : FuncId) (n : Nat) (g : Nat → DD) (p : Vu → Bool) (l : List Vu) (h : ∀ x ∈ l, Sp (cx Tryz.prog mixed tyT_ok E) fi [encV x, .ref n g] (dB (p x))) : Sp (cx Tryz.prog mixed tyT_ok E) 76 [.rc (.vals l), .fn fi [.ref n g]] (dB (l.any p)) := by
  have hi := indexFV_sp E fi n g p l h
  have e := idxF_any .zero p l (l.length + 1) 0 (by omega)
  rw [List.drop_zero] at e
  rw [← e]
  generalize idxF .zero p l 0 = r at hi
  refine Sp.body Tryz.func76 (by kernel_rfl) rfl (by kernel_rfl) (by kernel_rfl) (by kernel_rfl) ?_
  repeat' first
    | (refine facW_intro ?_; intro _)
    | refine Or.inl ?_
    | ((conv => whnf); first | (refine condW_dec ?_ ?_ <;> intro _) | refine condW_not ?_ | (refine condW_bool ?_ ?_ <;> intro _) | (refine nbC_t (fun _ => ?_) ?_) | (refine nbC_f ?_ (fun _ => ?_)))
    | refine And.intro (by first | omega | (simp only [Int.toNat_natCast] at *; omega) | (simp only [Nat.reduceAdd, Int.cast_ofNat_Int, true_and, and_true]; omega) | kernel_rfl) ?_
    | refine RegW.run ?_
    | refine ⟨_, hi, ?_⟩
    | fail
  all_goals exact Dle.refl _ _
theorem isIt_sp (c : Cd) (y : Vu) : Sp (cx Tryz.prog mixed tyT_ok E) 75 [encV y, refC c] (dB (decide (cmpV y c.value = 0))) := by
  have h1 := sameOf_sp E y c.value
  generalize decide (cmpV y c.value = 0) = b at h1
  refine Sp.body Tryz.func75 (by kernel_rfl) rfl (by kernel_rfl) (by kernel_rfl) (by kernel_rfl) ?_
  repeat' first
    | (refine facW_intro ?_; intro _)
    | refine Or.inl ?_
    | ((conv => whnf); first | (refine condW_dec ?_ ?_ <;> intro _) | refine condW_not ?_ | (refine condW_bool ?_ ?_ <;> intro _) | (refine nbC_t (fun _ => ?_) ?_) | (refine nbC_f ?_ (fun _ => ?_)))
    | refine And.intro (by first | omega | (simp only [Int.toNat_natCast] at *; omega) | (simp only [Nat.reduceAdd, Int.cast_ofNat_Int, true_and, and_true]; omega) | kernel_rfl) ?_
    | refine RegW.run ?_
    | refine ⟨_, h1, ?_⟩
    | fail
  all_goals exact Dle.refl _ _
theorem isThis_sp (x y : Vu) : Sp (cx Tryz.prog mixed tyT_ok E) 77 [encV y, refV x] (dB (decide (cmpV x y = 0))) := by
  have h1 := sameOf_sp E x y
  generalize decide (cmpV x y = 0) = b at h1
  refine Sp.body Tryz.func77 (by kernel_rfl) rfl (by kernel_rfl) (by kernel_rfl) (by kernel_rfl) ?_
  repeat' first
    | (refine facW_intro ?_; intro _)
    | refine Or.inl ?_
    | ((conv => whnf); first | (refine condW_dec ?_ ?_ <;> intro _) | refine condW_not ?_ | (refine condW_bool ?_ ?_ <;> intro _) | (refine nbC_t (fun _ => ?_) ?_) | (refine nbC_f ?_ (fun _ => ?_)))
    | refine And.intro (by first | omega | (simp only [Int.toNat_natCast] at *; omega) | (simp only [Nat.reduceAdd, Int.cast_ofNat_Int, true_and, and_true]; omega) | kernel_rfl) ?_
    | refine RegW.run ?_
    | refine ⟨_, h1, ?_⟩
    | fail
  all_goals exact Dle.refl _ _
end
end Go.Proofs.YtkjflkbjepdaaaaGreatDoor
