/-
  Conditions: values of operations on both sides; the reference's counts.
-/
import Derived.Test.YtkjflkbjepdaaaaGreatDoorW0
namespace Go.Proofs.YtkjflkbjepdaaaaGreatDoor
open Go.RowKit
set_option linter.unusedVariables false
set_option linter.unusedSimpArgs false
/-- Whether one of a row is a list or a table, from a place on. -/
def anyC (l : List Vu) (k : Nat) : Bool := (l.drop k).any compB
theorem anyC_yes {l : List Vu} {k : Nat} (h : k < l.length) (h2 : compB (l.getD k .zero) = true) : anyC l k = true := by
  unfold anyC
  rw [drop_cons l .zero k h, List.any_cons, h2]; rfl
theorem anyC_next {l : List Vu} {k : Nat} (h : k < l.length) (h2 : compB (l.getD k .zero) = false) : anyC l k = anyC l (k + 1) := by
  unfold anyC
  rw [drop_cons l .zero k h, List.any_cons, h2]; rfl
theorem anyC_end {l : List Vu} {k : Nat} (h : l.length ≤ k) : anyC l k = false := by unfold anyC; rw [List.drop_of_length_le h]; rfl
/-- The first place of one that is, from a place on; -1: none. -/
def idxC (l : List Vu) (k : Nat) : Int := if k < l.length then (if compB (l.getD k .zero) = true then (k : Int) else idxC l (k + 1)) else -1
  termination_by l.length - k
theorem idxC_any (l : List Vu) : ∀ (n k : Nat), l.length - k < n → decide (0 ≤ idxC l k) = anyC l k
  | 0, k, h => by omega
  | n + 1, k, h => by
    rw [idxC]
    split
    · rename_i h1
      split
      · rename_i h2
        rw [anyC_yes h1 h2, decide_eq_true (by omega)]
      · rename_i h2
        rw [anyC_next h1 (by simpa using h2)]
        exact idxC_any l n (k + 1) (by omega)
    · rw [anyC_end (by omega)]
      rfl
section
variable (E : Env)
set_option maxRecDepth 100000
theorem wrongKind_sp (op : Int) (v : Vu) : Sp (cx Tryz.prog mixed tyT_ok E) 174 [i64 op, encV v] (dB (wrongB op v)) := by
  obtain ⟨r, hr⟩ : ∃ r, r = wrongB op v := ⟨_, rfl⟩
  rw [← hr]
  unfold wrongB at hr
  have ha : v.items.any compB = anyC v.items 0 := rfl
  rw [ha] at hr
  refine Sp.body Tryz.func174 (by kernel_rfl) rfl (by kernel_rfl) (by kernel_rfl) (by kernel_rfl) ?_
  repeat' first
    | (refine facW_intro ?_; intro _)
    | refine Or.inl ?_
    | ((conv => whnf); first | (refine condW_dec ?_ ?_ <;> intro _) | refine condW_not ?_ | (refine condW_bool ?_ ?_ <;> intro _) | (refine nbC_t (fun _ => ?_) ?_) | (refine nbC_f ?_ (fun _ => ?_)))
    | refine And.intro (by first | omega | (simp only [Int.toNat_natCast] at *; omega) | (simp only [Nat.reduceAdd, Int.cast_ofNat_Int, true_and, and_true]; omega) | kernel_rfl) ?_
    | refine RegW.run ?_
    | refine ⟨_, compound_sp E _, ?_⟩
    | fail
  all_goals first
    | exact Dle.bo (by rw [hr]; grind)
    | skip
  all_goals
    have hr : r = anyC v.items 0 := by rw [hr]; grind
    refine ⟨Nat, fun k => [(16, i64 k)], fun k => [], [], fun k => [], fun k => k ≤ v.items.length ∧ r = anyC v.items k, fun k => v.items.length - k, ⟨0, ⟨by omega, hr⟩, ⟨[], ⟨by kernel_rfl, by kernel_rfl, by kernel_rfl, by kernel_rfl, by kernel_rfl, by kernel_rfl, by kernel_rfl⟩, (by repeat' first | exact trivial | exact rfl | kernel_rfl | exact Dle.of_eq rfl | exact MLe.of_eq rfl | exact Dle.i (by omega) | exact Dle.i (by simp only [Int.toNat_natCast] at *; omega) | exact Dle.nil | exact Dle.rc Dle.nil | exact Option.some_ne_none _ | exact Or.inl rfl | exact Or.inr trivial | omega | (simp only [Int.toNat_natCast] at *; omega) | (intro _ _ _ _; exact Dle.of_eq rfl) | refine And.intro ?_ ?_)⟩⟩, fun k hk => ?_⟩
    obtain ⟨hk, hK⟩ := hk
    by_cases hlt : k < v.items.length
    · repeat' first
        | (refine facW_intro ?_; intro _)
        | refine Or.inl ?_
        | ((conv => whnf); first | (refine condW_dec ?_ ?_ <;> intro _ <;> try (exfalso; omega)) | refine condW_not ?_ | (refine condW_bool ?_ ?_ <;> intro _ <;> try (exfalso; omega)) | (refine nbC_t (fun _ => ?_) ?_) | (refine nbC_f ?_ (fun _ => ?_)))
        | refine And.intro (by first | omega | (simp only [Int.toNat_natCast] at *; omega) | (simp only [Nat.reduceAdd, Int.cast_ofNat_Int, true_and, and_true]; omega) | kernel_rfl) ?_
        | refine RegW.run ?_
        | refine ⟨_, compound_sp E _, ?_⟩
        | fail
      all_goals first
        | exact ⟨k + 1, ⟨by omega, by rw [hK, anyC_next hlt (by simp only [Int.toNat_natCast] at *; first | assumption | (rw [show ((k : Int) - 1).toNat = k - 1 by omega] at *; assumption))]⟩, ⟨[], ⟨by kernel_rfl, by kernel_rfl, by kernel_rfl, by kernel_rfl, by kernel_rfl, by kernel_rfl, by kernel_rfl⟩, (by repeat' first | exact trivial | exact rfl | kernel_rfl | exact Dle.of_eq rfl | exact MLe.of_eq rfl | exact Dle.i (by omega) | exact Dle.i (by simp only [Int.toNat_natCast] at *; omega) | exact Dle.nil | exact Dle.rc Dle.nil | exact Option.some_ne_none _ | exact Or.inl rfl | exact Or.inr trivial | omega | (simp only [Int.toNat_natCast] at *; omega) | (intro _ _ _ _; exact Dle.of_eq rfl) | refine And.intro ?_ ?_)⟩, by first | omega | (dsimp only; omega)⟩
        | exact Dle.bo (by rw [hK, anyC_yes hlt (by simp only [Int.toNat_natCast] at *; first | assumption | (rw [show ((k : Int) - 1).toNat = k - 1 by omega] at *; assumption))])
        | trace_state
    · repeat' first
        | (refine facW_intro ?_; intro _)
        | refine Or.inl ?_
        | ((conv => whnf); first | (refine condW_dec ?_ ?_ <;> intro _ <;> try (exfalso; omega)) | refine condW_not ?_ | (refine condW_bool ?_ ?_ <;> intro _ <;> try (exfalso; omega)) | (refine nbC_t (fun _ => ?_) ?_) | (refine nbC_f ?_ (fun _ => ?_)))
        | refine And.intro (by first | omega | (simp only [Int.toNat_natCast] at *; omega) | (simp only [Nat.reduceAdd, Int.cast_ofNat_Int, true_and, and_true]; omega) | kernel_rfl) ?_
        | refine RegW.run ?_
        | fail
      exact Dle.bo (by rw [hK, anyC_end (by omega)])
theorem scalar_sp (v : Vu) : Sp (cx Tryz.prog mixed tyT_ok E) 130 [encV v] (dB (!compB v)) := by
  refine Sp.body Tryz.func130 (by kernel_rfl) rfl (by kernel_rfl) (by kernel_rfl) (by kernel_rfl) ?_
  repeat' first
    | (refine facW_intro ?_; intro _)
    | refine Or.inl ?_
    | ((conv => whnf); first | (refine condW_dec ?_ ?_ <;> intro _ <;> try (exfalso; omega)) | refine condW_not ?_ | (refine condW_bool ?_ ?_ <;> intro _ <;> try (exfalso; omega)) | (refine nbC_t (fun _ => ?_) ?_) | (refine nbC_f ?_ (fun _ => ?_)))
    | refine And.intro (by first | omega | (simp only [Int.toNat_natCast] at *; omega) | (simp only [Nat.reduceAdd, Int.cast_ofNat_Int, true_and, and_true]; omega) | kernel_rfl) ?_
    | refine RegW.run ?_
    | fail
  all_goals first
    | exact Dle.bo (by unfold compB; grind)
    | trace_state
theorem notScalar_sp (v : Vu) : Sp (cx Tryz.prog mixed tyT_ok E) 129 [encV v] (dB (compB v)) := by
  refine Sp.body Tryz.func129 (by kernel_rfl) rfl (by kernel_rfl) (by kernel_rfl) (by kernel_rfl) ?_
  repeat' first
    | (refine facW_intro ?_; intro _)
    | refine Or.inl ?_
    | ((conv => whnf); first | (refine condW_dec ?_ ?_ <;> intro _) | refine condW_not ?_ | (refine condW_bool ?_ ?_ <;> intro _) | (refine nbC_t (fun _ => ?_) ?_) | (refine nbC_f ?_ (fun _ => ?_)))
    | refine And.intro (by first | omega | (simp only [Int.toNat_natCast] at *; omega) | (simp only [Nat.reduceAdd, Int.cast_ofNat_Int, true_and, and_true]; omega) | kernel_rfl) ?_
    | refine RegW.run ?_
    | refine ⟨_, scalar_sp E v, ?_⟩
    | fail
  all_goals first
    | exact Dle.bo (by simp)
    | exact Dle.bo (by simp_all)
    | trace_state
theorem indexC_sp (l : List Vu) : Sp (cx Tryz.prog mixed tyT_ok E) 127 [.rc (.vals l), .fn 129 []] (i64 (idxC l 0)) := by
  obtain ⟨r, hr⟩ : ∃ r, r = idxC l 0 := ⟨_, rfl⟩
  rw [← hr]
  refine Sp.body Tryz.func127 (by kernel_rfl) rfl (by kernel_rfl) (by kernel_rfl) (by kernel_rfl) ?_
  repeat' first
    | (refine facW_intro ?_; intro _)
    | refine Or.inl ?_
    | ((conv => whnf); first | (refine condW_dec ?_ ?_ <;> intro _) | refine condW_not ?_ | (refine condW_bool ?_ ?_ <;> intro _) | (refine nbC_t (fun _ => ?_) ?_) | (refine nbC_f ?_ (fun _ => ?_)))
    | refine And.intro (by first | omega | (simp only [Int.toNat_natCast] at *; omega) | (simp only [Nat.reduceAdd, Int.cast_ofNat_Int, true_and, and_true]; omega) | kernel_rfl) ?_
    | refine RegW.run ?_
    | fail
  refine ⟨Nat, fun k => [(8, i64 k)], fun k => [], [], fun k => [], fun k => k ≤ l.length ∧ r = idxC l k, fun k => l.length - k, ⟨0, ⟨by omega, hr⟩, ⟨[], ⟨by kernel_rfl, by kernel_rfl, by kernel_rfl, by kernel_rfl, by kernel_rfl, by kernel_rfl, by kernel_rfl⟩, (by repeat' first | exact trivial | exact rfl | kernel_rfl | exact Dle.of_eq rfl | exact MLe.of_eq rfl | exact Dle.i (by omega) | exact Dle.i (by simp only [Int.toNat_natCast] at *; omega) | exact Dle.nil | exact Dle.rc Dle.nil | exact Option.some_ne_none _ | exact Or.inl rfl | exact Or.inr trivial | omega | (simp only [Int.toNat_natCast] at *; omega) | (intro _ _ _ _; exact Dle.of_eq rfl) | refine And.intro ?_ ?_)⟩⟩, fun k hk => ?_⟩
  obtain ⟨hk, hK⟩ := hk
  rw [idxC] at hK
  by_cases hlt : k < l.length
  · rw [if_pos hlt] at hK
    repeat' first
      | (refine facW_intro ?_; intro _)
      | refine Or.inl ?_
      | ((conv => whnf); first | (refine condW_dec ?_ ?_ <;> intro _ <;> try (exfalso; omega)) | refine condW_not ?_ | (refine condW_bool ?_ ?_ <;> intro _ <;> try (exfalso; omega)) | (refine nbC_t (fun _ => ?_) ?_) | (refine nbC_f ?_ (fun _ => ?_)))
      | refine And.intro (by first | omega | (simp only [Int.toNat_natCast] at *; omega) | (simp only [Nat.reduceAdd, Int.cast_ofNat_Int, true_and, and_true]; omega) | kernel_rfl) ?_
      | refine RegW.run ?_
      | refine ⟨_, notScalar_sp E _, ?_⟩
      | fail
    all_goals first
      | (rename_i h
         have h : compB (l.getD k .zero) = false := h
         exact ⟨k + 1, ⟨by omega, by rw [hK, h, if_neg (by decide)]⟩, ⟨[], ⟨by kernel_rfl, by kernel_rfl, by kernel_rfl, by kernel_rfl, by kernel_rfl, by kernel_rfl, by kernel_rfl⟩, (by repeat' first | exact trivial | exact rfl | kernel_rfl | exact Dle.of_eq rfl | exact MLe.of_eq rfl | exact Dle.i (by omega) | exact Dle.i (by simp only [Int.toNat_natCast] at *; omega) | exact Dle.nil | exact Dle.rc Dle.nil | exact Option.some_ne_none _ | exact Or.inl rfl | exact Or.inr trivial | omega | (simp only [Int.toNat_natCast] at *; omega) | (intro _ _ _ _; exact Dle.of_eq rfl) | refine And.intro ?_ ?_)⟩, by first | omega | (dsimp only; omega)⟩)
      | exact Dle.i (by rw [hK, if_pos (by simp only [Int.toNat_natCast] at *; first | assumption | (rw [show ((k : Int) - 1).toNat = k - 1 by omega] at *; assumption))])
      | trace_state
  · rw [if_neg hlt] at hK
    repeat' first
      | (refine facW_intro ?_; intro _)
      | refine Or.inl ?_
      | ((conv => whnf); first | (refine condW_dec ?_ ?_ <;> intro _ <;> try (exfalso; omega)) | refine condW_not ?_ | (refine condW_bool ?_ ?_ <;> intro _ <;> try (exfalso; omega)) | (refine nbC_t (fun _ => ?_) ?_) | (refine nbC_f ?_ (fun _ => ?_)))
      | refine And.intro (by first | omega | (simp only [Int.toNat_natCast] at *; omega) | (simp only [Nat.reduceAdd, Int.cast_ofNat_Int, true_and, and_true]; omega) | kernel_rfl) ?_
      | refine RegW.run ?_
      | fail
    exact Dle.i (by rw [hK])
theorem containsC_sp (l : List Vu) : Sp (cx Tryz.prog mixed tyT_ok E) 76 [.rc (.vals l), .fn 129 []] (dB (l.any compB)) := by
  have h := idxC_any l (l.length + 1) 0 (by omega)
  have ha : l.any compB = anyC l 0 := rfl
  have hi := indexC_sp E l
  rw [ha, ← h]
  generalize idxC l 0 = r at hi
  refine Sp.body Tryz.func76 (by kernel_rfl) rfl (by kernel_rfl) (by kernel_rfl) (by kernel_rfl) ?_
  repeat' first
    | (refine facW_intro ?_; intro _)
    | refine Or.inl ?_
    | ((conv => whnf); first | (refine condW_dec ?_ ?_ <;> intro _) | refine condW_not ?_ | (refine condW_bool ?_ ?_ <;> intro _) | (refine nbC_t (fun _ => ?_) ?_) | (refine nbC_f ?_ (fun _ => ?_)))
    | refine And.intro (by first | omega | (simp only [Int.toNat_natCast] at *; omega) | (simp only [Nat.reduceAdd, Int.cast_ofNat_Int, true_and, and_true]; omega) | kernel_rfl) ?_
    | refine RegW.run ?_
    | refine ⟨_, hi, ?_⟩
    | fail
  all_goals exact Dle.refl _ _
theorem valueFault_sp2 (op : Int) (v : Vu) : Sp (cx Tryz.prog mixed tyT_ok E) 80 [i64 op, encV v] (dB (wrongB op v)) := by
  have hc := containsC_sp E v.items
  unfold wrongB
  generalize v.items.any compB = b at hc
  refine Sp.body Tryz.func80 (by kernel_rfl) rfl (by kernel_rfl) (by kernel_rfl) (by kernel_rfl) ?_
  repeat' first
    | (refine facW_intro ?_; intro _)
    | refine Or.inl ?_
    | ((conv => whnf); first | (refine condW_dec ?_ ?_ <;> intro _) | refine condW_not ?_ | (refine condW_bool ?_ ?_ <;> intro _) | (refine nbC_t (fun _ => ?_) ?_) | (refine nbC_f ?_ (fun _ => ?_)))
    | refine And.intro (by first | omega | (simp only [Int.toNat_natCast] at *; omega) | (simp only [Nat.reduceAdd, Int.cast_ofNat_Int, true_and, and_true]; omega) | kernel_rfl) ?_
    | refine RegW.run ?_
    | refine ⟨_, hc, ?_⟩
    | refine ⟨_, scalar_sp E v, ?_⟩
    | fail
  all_goals first
    | exact Dle.bo (by grind)
    | trace_state
theorem condsOf_sp : ∀ (N : Nat) (c : Cd), SizeOf.sizeOf c < N → ccnt c ≤ 4611686018427387904 → Sp (cx Tryz.prog mixed tyT_ok E) 32 [encC c] (.tup [i64 (ccnt c), i64 (clvl c)])
  | 0, c, h, _ => by omega
  | N + 1, c, h, hb => by
    have ih := fun x (hx : x ∈ c.kids) => condsOf_sp N x (by have := kids_lt c x hx; omega) (by have := ccnt_mem c.kids x hx; rw [ccnt_eq] at hb; omega)
    have hlc := clvlL_le_cnt c.kids
    rw [ccnt_eq] at hb
    rw [ccnt_eq, clvl_eq]
    refine Sp.body Tryz.func32 (by kernel_rfl) rfl (by kernel_rfl) (by kernel_rfl) (by kernel_rfl) ?_
    repeat' first
      | (refine facW_intro ?_; intro _)
      | refine Or.inl ?_
      | ((conv => whnf); first | (refine condW_dec ?_ ?_ <;> intro _) | refine condW_not ?_ | (refine condW_bool ?_ ?_ <;> intro _) | (refine nbC_t (fun _ => ?_) ?_) | (refine nbC_f ?_ (fun _ => ?_)))
      | refine And.intro (by first | omega | (simp only [Int.toNat_natCast] at *; omega) | (simp only [Nat.reduceAdd, Int.cast_ofNat_Int, true_and, and_true]; omega) | kernel_rfl) ?_
      | refine RegW.run ?_
      | fail
    refine ⟨Nat, fun k => [(11, i64 k), (2, i64 (ccntL (c.kids.take k) + 1 : Nat)), (3, i64 (clvlL (c.kids.take k)))], fun k => [], [], fun k => [], fun k => k ≤ c.kids.length, fun k => c.kids.length - k, ⟨0, by omega, ⟨[], ⟨by kernel_rfl, by kernel_rfl, by kernel_rfl, by kernel_rfl, by kernel_rfl, by kernel_rfl, by kernel_rfl⟩, (by repeat' first | exact trivial | exact rfl | kernel_rfl | exact Dle.of_eq rfl | exact MLe.of_eq rfl | exact Dle.i (by omega) | exact Dle.i (by simp only [Int.toNat_natCast] at *; omega) | exact Dle.nil | exact Dle.rc Dle.nil | exact Option.some_ne_none _ | exact Or.inl rfl | exact Or.inr trivial | omega | (simp only [Int.toNat_natCast] at *; omega) | (intro _ _ _ _; exact Dle.of_eq rfl) | refine And.intro ?_ ?_)⟩⟩, fun k hk => ?_⟩
    have hk : k ≤ c.kids.length := hk
    by_cases hlt : k < c.kids.length
    · have h1 := ccntL_take c.kids k
      have h2 := ccntL_take c.kids (k + 1)
      rw [take_snoc c.kids .zero k hlt, ccntL_app] at h2
      repeat' first
        | (refine facW_intro ?_; intro _)
        | refine Or.inl ?_
        | ((conv => whnf); first | (refine condW_dec ?_ ?_ <;> intro _ <;> try (exfalso; omega)) | refine condW_not ?_ | (refine condW_bool ?_ ?_ <;> intro _ <;> try (exfalso; omega)) | (refine nbC_t (fun _ => ?_) ?_) | (refine nbC_f ?_ (fun _ => ?_)))
        | refine And.intro (by first | omega | (simp only [Int.toNat_natCast] at *; omega) | (simp only [Nat.reduceAdd, Int.cast_ofNat_Int, true_and, and_true]; omega) | kernel_rfl) ?_
        | refine RegW.run ?_
        | refine ⟨_, ih _ (getD_mem c.kids .zero k hlt), ?_⟩
        | fail
      have e1 : ccntL (c.kids.take (k + 1)) = ccntL (c.kids.take k) + ccnt (c.kids.getD k .zero) := by rw [take_snoc c.kids .zero k hlt, ccntL_app]
      have e2 : clvlL (c.kids.take (k + 1)) = max (clvlL (c.kids.take k)) (clvl (c.kids.getD k .zero)) := by rw [take_snoc c.kids .zero k hlt, clvlL_app]
      exact ⟨k + 1, hlt, ⟨[], ⟨by kernel_rfl, by kernel_rfl, by kernel_rfl, by kernel_rfl, by kernel_rfl, by kernel_rfl, by kernel_rfl⟩, (by repeat' first | exact trivial | exact rfl | kernel_rfl | exact Dle.of_eq rfl | exact MLe.of_eq rfl | exact Dle.i (by omega) | exact Dle.i (by simp only [Int.toNat_natCast] at *; omega) | exact Dle.nil | exact Dle.rc Dle.nil | exact Option.some_ne_none _ | exact Or.inl rfl | exact Or.inr trivial | omega | (simp only [Int.toNat_natCast] at *; omega) | (intro _ _ _ _; exact Dle.of_eq rfl) | refine And.intro ?_ ?_)⟩, by first | omega | (dsimp only; omega)⟩
    · have : k = c.kids.length := by omega
      subst this
      have e : c.kids.take c.kids.length = c.kids := List.take_length
      rw [← e] at hb hlc
      repeat' first
        | (refine facW_intro ?_; intro _)
        | refine Or.inl ?_
        | ((conv => whnf); first | (refine condW_dec ?_ ?_ <;> intro _ <;> try (exfalso; omega)) | refine condW_not ?_ | (refine condW_bool ?_ ?_ <;> intro _ <;> try (exfalso; omega)) | (refine nbC_t (fun _ => ?_) ?_) | (refine nbC_f ?_ (fun _ => ?_)))
        | refine And.intro (by first | omega | (simp only [Int.toNat_natCast] at *; omega) | (simp only [Nat.reduceAdd, Int.cast_ofNat_Int, true_and, and_true]; omega) | kernel_rfl) ?_
        | refine RegW.run ?_
        | fail
      exact Dle.tup (X := (cx Tryz.prog mixed tyT_ok E)) ⟨Dle.i (by rw [e]), Dle.i (by rw [e]; omega), trivial⟩
end
end Go.Proofs.YtkjflkbjepdaaaaGreatDoor
