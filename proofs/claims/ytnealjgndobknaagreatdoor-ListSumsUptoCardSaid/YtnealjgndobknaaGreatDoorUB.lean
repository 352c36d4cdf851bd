/-
  The first places of the least and of the greatest value: list.Extremes.
-/
import Derived.Test.YtnealjgndobknaaGreatDoorUA
import Derived.Test.YtnealjgndobknaaGreatDoorU9
namespace Go.Proofs.YtnealjgndobknaaGreatDoor
open Go.RowKit
set_option linter.unusedVariables false
set_option linter.unusedSimpArgs false
/-- A round: the places so far; -1: none. -/
def exStep (m : List Vu) (k : Nat) (q : Int × Int) : Int × Int :=
  if (m.getD k .zero).kind = 0 then q else
    (if q.1 < 0 ∨ cmpV (m.getD k .zero) (m.getD q.1.toNat .zero) < 0 then (k : Int) else q.1, if q.2 < 0 ∨ 0 < cmpV (m.getD k .zero) (m.getD q.2.toNat .zero) then (k : Int) else q.2)
def exQ (m : List Vu) (k : Nat) (q : Int × Int) : Int × Int := if k < m.length then exQ m (k + 1) (exStep m k q) else q
  termination_by m.length - k
theorem exQ_next {m : List Vu} {k : Nat} {q : Int × Int} (h : k < m.length) : exQ m k q = exQ m (k + 1) (exStep m k q) := by rw [exQ, if_pos h]
theorem exQ_end {m : List Vu} {k : Nat} {q : Int × Int} (h : ¬ k < m.length) : exQ m k q = q := by rw [exQ, if_neg h]
theorem ex_nil {m : List Vu} {k : Nat} {q : Int × Int} (h : (m.getD k .zero).kind = 0) : exStep m k q = q := if_pos h
theorem ex_some {m : List Vu} {k : Nat} {q : Int × Int} (h : ¬ (m.getD k .zero).kind = 0) : exStep m k q = (if q.1 < 0 ∨ cmpV (m.getD k .zero) (m.getD q.1.toNat .zero) < 0 then (k : Int) else q.1, if q.2 < 0 ∨ 0 < cmpV (m.getD k .zero) (m.getD q.2.toNat .zero) then (k : Int) else q.2) := if_neg h
/-- What Extremes answers. -/
def exR (m : List Vu) : Int × Int × Int := if (exQ m 0 (-1, -1)).1 < 0 then (0, 0, 7) else ((exQ m 0 (-1, -1)).1, (exQ m 0 (-1, -1)).2, 0)
def exE (l : List Vu) (s : ByteArray) : Int × Int × Int := if routeE l s ≠ 0 then (0, 0, routeE l s) else exR (l.map fun v => hasR v s)
section
variable (E : Env)
set_option maxRecDepth 100000
set_option maxHeartbeats 4000000 in
theorem extremes_sp (l : List Vu) (s : ByteArray) (hw : Vu.wtL l ≤ 100000000) (hs : s.size ≤ 1000000000) : Sp (cx Tryz.prog mixed tyT_ok E) 8 [.rc (.vals l), dS s] (.tup [i64 (exE l s).1, i64 (exE l s).2.1, i64 (exE l s).2.2]) := by
  have h1 := routed_sp E l s hw hs
  have hok := @routeE_ok l s
  have hlen : l.length ≤ 100000000 := by have := len_le_wtM l; omega
  unfold exE
  generalize routeE l s = e at h1 hok
  refine Sp.body Tryz.func8 (by kernel_rfl) rfl (by kernel_rfl) (by kernel_rfl) (by kernel_rfl) ?_
  repeat' first
    | (refine facW_intro ?_; intro _)
    | refine Or.inl ?_
    | ((conv => whnf); first | (refine condW_dec ?_ ?_ <;> intro _) | refine condW_not ?_ | (refine condW_bool ?_ ?_ <;> intro _))
    | refine And.intro (by first | omega | (simp only [Int.toNat_natCast] at *; omega) | (simp only [Nat.reduceAdd, Int.cast_ofNat_Int, true_and, and_true]; omega) | kernel_rfl) ?_
    | refine RegW.run ?_
    | refine ⟨_, h1, ?_⟩
    | fail
  rotate_left
  · rename_i h
    rw [if_pos h]
    exact Dle.refl _ _
  · rename_i h
    rw [if_neg (show ¬ (e ≠ 0) from fun h2 => h2 h)]
    have hh := had_sp E l s (hok h).1 hs (by omega)
    have hml : (l.map fun v => hasR v s).length = l.length := by simp
    generalize (l.map fun v => hasR v s) = m at hh hml
    obtain ⟨o, ho⟩ : ∃ o, o = exQ m 0 (-1, -1) := ⟨_, rfl⟩
    unfold exR
    rw [← ho]
    repeat' first
      | (refine facW_intro ?_; intro _)
      | refine Or.inl ?_
      | ((conv => whnf); first | (refine condW_dec ?_ ?_ <;> intro _) | refine condW_not ?_ | (refine condW_bool ?_ ?_ <;> intro _))
      | refine And.intro (by first | omega | (simp only [Int.toNat_natCast] at *; omega) | (simp only [Nat.reduceAdd, Int.cast_ofNat_Int, true_and, and_true]; omega) | kernel_rfl) ?_
      | refine RegW.run ?_
      | refine ⟨_, hh, ?_⟩
      | fail
    refine ⟨Nat × Int × Int, fun k => [(22, i64 k.1), (4, i64 k.2.1), (5, i64 k.2.2)], fun k => [], [], fun k => [], fun k => k.1 ≤ m.length ∧ -1 ≤ k.2.1 ∧ k.2.1 < k.1 ∧ -1 ≤ k.2.2 ∧ k.2.2 < k.1 ∧ o = exQ m k.1 k.2, fun k => m.length - k.1, ⟨(0, -1, -1), ⟨by omega, by decide, by decide, by decide, by decide, ho⟩, ⟨[], ⟨by kernel_rfl, by kernel_rfl, by kernel_rfl, by kernel_rfl, by kernel_rfl, by kernel_rfl, by kernel_rfl⟩, (by repeat' first | exact trivial | exact rfl | kernel_rfl | exact Dle.of_eq rfl | exact Dle.i (by omega) | exact Dle.i (by simp only [Int.toNat_natCast] at *; omega) | exact Dle.nil | exact Dle.rc Dle.nil | exact Option.some_ne_none _ | exact Or.inl rfl | exact Or.inr trivial | omega | (simp only [Int.toNat_natCast] at *; omega) | (intro _ _ _ _; exact Dle.of_eq rfl) | refine And.intro ?_ ?_)⟩⟩, fun k hk => ?_⟩
    obtain ⟨g1, g2, g3, g4, g5, g6⟩ := hk
    by_cases hlt : k.1 < m.length
    · rw [exQ_next hlt] at g6
      have hcm := fun v w => compare_sp E _ v w (Nat.lt_succ_self _)
      by_cases hz : (m.getD k.1 .zero).kind = 0
      · rw [ex_nil hz] at g6
        have hz : (m.getD ((k.1 : Int)).toNat .zero).kind = 0 := hz
        repeat' first
          | (refine facW_intro ?_; intro _)
          | refine Or.inl ?_
          | ((conv => whnf); first | (refine condW_dec ?_ ?_ <;> intro _ <;> try (exfalso; omega)) | refine condW_not ?_ | (refine condW_bool ?_ ?_ <;> intro _ <;> try (exfalso; omega)))
          | refine And.intro (by first | omega | (simp only [Int.toNat_natCast] at *; omega) | (simp only [Nat.reduceAdd, Int.cast_ofNat_Int, true_and, and_true]; omega) | kernel_rfl) ?_
          | refine RegW.run ?_
          | fail
        exact ⟨(k.1 + 1, k.2), ⟨by dsimp only; omega, g2, by dsimp only; omega, g4, by dsimp only; omega, g6⟩, ⟨[], ⟨by kernel_rfl, by kernel_rfl, by kernel_rfl, by kernel_rfl, by kernel_rfl, by kernel_rfl, by kernel_rfl⟩, (by repeat' first | exact trivial | exact rfl | kernel_rfl | exact Dle.of_eq rfl | exact Dle.i (by omega) | exact Dle.i (by simp only [Int.toNat_natCast] at *; omega) | exact Dle.nil | exact Dle.rc Dle.nil | exact Option.some_ne_none _ | exact Or.inl rfl | exact Or.inr trivial | omega | (simp only [Int.toNat_natCast] at *; omega) | (intro _ _ _ _; exact Dle.of_eq rfl) | refine And.intro ?_ ?_)⟩, by first | omega | (dsimp only; omega)⟩
      · rw [ex_some hz] at g6
        have hz : ¬ (m.getD ((k.1 : Int)).toNat .zero).kind = 0 := hz
        repeat' first
          | (refine facW_intro ?_; intro _)
          | refine Or.inl ?_
          | ((conv => whnf); first | (refine condW_dec ?_ ?_ <;> intro _ <;> try (exfalso; omega)) | refine condW_not ?_ | (refine condW_bool ?_ ?_ <;> intro _ <;> try (exfalso; omega)))
          | refine And.intro (by first | omega | (simp only [Int.toNat_natCast] at *; omega) | (simp only [Nat.reduceAdd, Int.cast_ofNat_Int, true_and, and_true]; omega) | kernel_rfl) ?_
          | refine RegW.run ?_
          | refine ⟨_, hcm _ _, ?_⟩
          | fail
        all_goals first
          | (have p1 : (k.2.1 < 0 ∨ cmpV (m.getD k.1 .zero) (m.getD k.2.1.toNat .zero) < 0) := by first | exact .inl (by assumption) | exact .inr (by assumption)
             rw [if_pos p1] at g6
             first
               | (have p2 : (k.2.2 < 0 ∨ 0 < cmpV (m.getD k.1 .zero) (m.getD k.2.2.toNat .zero)) := by first | exact .inl (by assumption) | exact .inr (by assumption)
                  rw [if_pos p2] at g6
                  exact ⟨(k.1 + 1, (k.1 : Int), (k.1 : Int)), ⟨by dsimp only; omega, by dsimp only; omega, by dsimp only; omega, by dsimp only; omega, by dsimp only; omega, g6⟩, ⟨[], ⟨by kernel_rfl, by kernel_rfl, by kernel_rfl, by kernel_rfl, by kernel_rfl, by kernel_rfl, by kernel_rfl⟩, (by repeat' first | exact trivial | exact rfl | kernel_rfl | exact Dle.of_eq rfl | exact Dle.i (by omega) | exact Dle.i (by simp only [Int.toNat_natCast] at *; omega) | exact Dle.nil | exact Dle.rc Dle.nil | exact Option.some_ne_none _ | exact Or.inl rfl | exact Or.inr trivial | omega | (simp only [Int.toNat_natCast] at *; omega) | (intro _ _ _ _; exact Dle.of_eq rfl) | refine And.intro ?_ ?_)⟩, by first | omega | (dsimp only; omega)⟩)
               | (have p2 : ¬ (k.2.2 < 0 ∨ 0 < cmpV (m.getD k.1 .zero) (m.getD k.2.2.toNat .zero)) := fun h => h.elim (by assumption) (by assumption)
                  rw [if_neg p2] at g6
                  exact ⟨(k.1 + 1, (k.1 : Int), k.2.2), ⟨by dsimp only; omega, by dsimp only; omega, by dsimp only; omega, by dsimp only; omega, by dsimp only; omega, g6⟩, ⟨[], ⟨by kernel_rfl, by kernel_rfl, by kernel_rfl, by kernel_rfl, by kernel_rfl, by kernel_rfl, by kernel_rfl⟩, (by repeat' first | exact trivial | exact rfl | kernel_rfl | exact Dle.of_eq rfl | exact Dle.i (by omega) | exact Dle.i (by simp only [Int.toNat_natCast] at *; omega) | exact Dle.nil | exact Dle.rc Dle.nil | exact Option.some_ne_none _ | exact Or.inl rfl | exact Or.inr trivial | omega | (simp only [Int.toNat_natCast] at *; omega) | (intro _ _ _ _; exact Dle.of_eq rfl) | refine And.intro ?_ ?_)⟩, by first | omega | (dsimp only; omega)⟩))
          | (have p1 : ¬ (k.2.1 < 0 ∨ cmpV (m.getD k.1 .zero) (m.getD k.2.1.toNat .zero) < 0) := fun h => h.elim (by assumption) (by assumption)
             rw [if_neg p1] at g6
             first
               | (have p2 : (k.2.2 < 0 ∨ 0 < cmpV (m.getD k.1 .zero) (m.getD k.2.2.toNat .zero)) := by first | exact .inl (by assumption) | exact .inr (by assumption)
                  rw [if_pos p2] at g6
                  exact ⟨(k.1 + 1, k.2.1, (k.1 : Int)), ⟨by dsimp only; omega, by dsimp only; omega, by dsimp only; omega, by dsimp only; omega, by dsimp only; omega, g6⟩, ⟨[], ⟨by kernel_rfl, by kernel_rfl, by kernel_rfl, by kernel_rfl, by kernel_rfl, by kernel_rfl, by kernel_rfl⟩, (by repeat' first | exact trivial | exact rfl | kernel_rfl | exact Dle.of_eq rfl | exact Dle.i (by omega) | exact Dle.i (by simp only [Int.toNat_natCast] at *; omega) | exact Dle.nil | exact Dle.rc Dle.nil | exact Option.some_ne_none _ | exact Or.inl rfl | exact Or.inr trivial | omega | (simp only [Int.toNat_natCast] at *; omega) | (intro _ _ _ _; exact Dle.of_eq rfl) | refine And.intro ?_ ?_)⟩, by first | omega | (dsimp only; omega)⟩)
               | (have p2 : ¬ (k.2.2 < 0 ∨ 0 < cmpV (m.getD k.1 .zero) (m.getD k.2.2.toNat .zero)) := fun h => h.elim (by assumption) (by assumption)
                  rw [if_neg p2] at g6
                  exact ⟨(k.1 + 1, k.2.1, k.2.2), ⟨by dsimp only; omega, by dsimp only; omega, by dsimp only; omega, by dsimp only; omega, by dsimp only; omega, g6⟩, ⟨[], ⟨by kernel_rfl, by kernel_rfl, by kernel_rfl, by kernel_rfl, by kernel_rfl, by kernel_rfl, by kernel_rfl⟩, (by repeat' first | exact trivial | exact rfl | kernel_rfl | exact Dle.of_eq rfl | exact Dle.i (by omega) | exact Dle.i (by simp only [Int.toNat_natCast] at *; omega) | exact Dle.nil | exact Dle.rc Dle.nil | exact Option.some_ne_none _ | exact Or.inl rfl | exact Or.inr trivial | omega | (simp only [Int.toNat_natCast] at *; omega) | (intro _ _ _ _; exact Dle.of_eq rfl) | refine And.intro ?_ ?_)⟩, by first | omega | (dsimp only; omega)⟩))
          | trace_state
    · have h5 := exQ_end (q := k.2) hlt
      rw [h5] at g6
      rw [g6]
      repeat' first
        | (refine facW_intro ?_; intro _)
        | refine Or.inl ?_
        | ((conv => whnf); first | (refine condW_dec ?_ ?_ <;> intro _ <;> try (exfalso; omega)) | refine condW_not ?_ | (refine condW_bool ?_ ?_ <;> intro _ <;> try (exfalso; omega)))
        | refine And.intro (by first | omega | (simp only [Int.toNat_natCast] at *; omega) | (simp only [Nat.reduceAdd, Int.cast_ofNat_Int, true_and, and_true]; omega) | kernel_rfl) ?_
        | refine RegW.run ?_
        | fail
      · rename_i h
        rw [if_pos h]
        exact Dle.refl _ _
      · rename_i h
        rw [if_neg h]
        exact Dle.refl _ _
end
end Go.Proofs.YtnealjgndobknaaGreatDoor
