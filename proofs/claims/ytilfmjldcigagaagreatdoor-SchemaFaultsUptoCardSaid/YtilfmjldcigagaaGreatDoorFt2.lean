/-
  Faults of a value by a schema: judge.add.
-/
import Derived.Test.YtilfmjldcigagaaGreatDoorFt1
namespace Go.Proofs.YtilfmjldcigagaaGreatDoor
open Go.RowKit
set_option linter.unusedVariables false
set_option linter.unusedSimpArgs false
namespace ft
abbrev rowQ (l : List Flt) (i j : Nat) : DD := Flt.cell (l.getD i (⟨#[]⟩, 0)) j
/-- A judge and its row of faults, as objects. -/
abbrev jH (l : List Flt) (C R : Nat) : List (Nat × Ob RC) := [(C, .cells [.own R 2 0 l.length]), (R, .row 95 l.length (rowQ l))]
section
variable (E : Env)
set_option maxRecDepth 100000
theorem row_q (l : List Flt) (q : Flt) (cs : List DD) (hcs : cs = [dS q.1, i64 q.2]) (i j : Nat) (hi : i < l.length + 1) (hj : j < 2) : Dle (cx Tryz.prog mixed tyT_ok E) (if i < l.length then rowQ l i j else cs.getD ((i - l.length + 0) * 2 + j) .opq) (rowQ (l ++ [q]) i j) := by
  subst hcs
  rcases Nat.lt_or_ge i l.length with h | h
  · rw [if_pos h]
    exact Dle.of_eq (by unfold rowQ; simp only [List.getD]; rw [List.getElem?_append_left h])
  · obtain rfl : i = l.length := by omega
    rw [if_neg (by omega)]
    have e : rowQ (l ++ [q]) l.length j = Flt.cell q j := by unfold rowQ; simp [List.getD]
    rw [e]
    match j, hj with
    | 0, _ => exact Dle.of_eq (by simp [Flt.cell, List.getD])
    | 1, _ => exact Dle.of_eq (by simp [Flt.cell, List.getD])
theorem add_sp (l : List Flt) (hl : l.length ≤ 1000000000000) (r : ByteArray) (k : Int) :
    SpH (cx Tryz.prog mixed tyT_ok E) 46 [.ptr 3000 0, dS r, i64 k] (jH l 3000 2000) (.tup []) (jH (l ++ [(r, k)]) 3000 15) := by
  refine SpH.body Tryz.func46 (by kernel_rfl) rfl (by kernel_rfl) (by kernel_rfl) (by kernel_rfl) ?_
  repeat' first
    | (refine facW_intro ?_; intro _)
    | refine Or.inl ?_
    | ((conv => whnf); first | (refine condW_dec ?_ ?_ <;> intro _ <;> try (exfalso; omega)) | refine condW_not ?_ | (refine condW_bool ?_ ?_ <;> intro _ <;> try (exfalso; omega)) | (refine nbC_t (fun _ => ?_) ?_) | (refine nbC_f ?_ (fun _ => ?_)))
    | refine And.intro (by first | omega | (simp only [Int.toNat_natCast] at *; omega) | (simp only [Nat.reduceAdd, Int.cast_ofNat_Int, true_and, and_true]; omega) | kernel_rfl) ?_
    | refine RegW.run ?_
    | fail
  all_goals first
    | exact ⟨[(3000, .cells [.own 15 2 0 (l ++ [(r, k)]).length])], [(15, 95, (l ++ [(r, k)]).length, rowQ (l ++ [(r, k)]))], rfl, ⟨[(15, some 15)], ⟨by kernel_rfl, by kernel_rfl, by kernel_rfl, by kernel_rfl, by kernel_rfl, by kernel_rfl, by kernel_rfl⟩, (by repeat' first | (first | exact Dle.of_eq (by simp) | (simp; done)) | exact trivial | exact rfl | kernel_rfl | exact Dle.of_eq rfl | exact MLe.of_eq rfl | exact Dle.i (by omega) | exact Dle.i (by simp only [Int.toNat_natCast] at *; omega) | exact Dle.nil | exact Dle.rc Dle.nil | exact Option.some_ne_none _ | exact Or.inl rfl | exact Or.inr trivial | omega | (simp only [Int.toNat_natCast] at *; omega) | (intro _ _ _ _; exact Dle.of_eq rfl) | (intro i j hi hj; exact row_q E l (r, k) _ rfl i j hi hj) | refine And.intro ?_ ?_)⟩, rfl⟩
    | trace_state
end
end ft
end Go.Proofs.YtilfmjldcigagaaGreatDoor
