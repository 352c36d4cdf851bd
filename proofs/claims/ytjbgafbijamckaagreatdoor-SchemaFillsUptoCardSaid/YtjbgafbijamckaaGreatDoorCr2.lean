/-
  A value without the item to which parts lead: slices.Clone, the reference's drop.
-/
import Derived.Test.YtjbgafbijamckaaGreatDoorCr1
import Derived.Test.YtjbgafbijamckaaGreatDoorDl1
namespace Go.Proofs.YtjbgafbijamckaaGreatDoor
open Go.RowKit
set_option linter.unusedVariables false
set_option linter.unusedSimpArgs false
namespace cr
abbrev rowV (l : List Vu) (i j : Nat) : DD := (l.getD i .zero).cell j
abbrev rowK (l : List ByteArray) (i j : Nat) : DD := dS (l.getD i ⟨#[]⟩)
section
variable (E : Env)
set_option maxRecDepth 100000
theorem cloneV_7 (l : List Vu) (hl : l.length * 88 ≤ 140737488355328) : SpH (cx Tryz.prog mixed tyT_ok E) 42 [.rc (.vals l)] [] (.own 7 6 0 l.length) [(7, .row 25 l.length (rowV l))] := by
  refine SpH.body Tryz.func42 (by kernel_rfl) rfl (by kernel_rfl) (by kernel_rfl) (by kernel_rfl) ?_
  repeat' first
    | (refine codeW_cond rfl ?_; first | (refine condW_dec ?_ ?_ <;> intro _ <;> try (exfalso; omega)) | refine condW_not ?_ | (refine condW_bool ?_ ?_ <;> intro _ <;> try (exfalso; omega)))
    | (refine facW_intro ?_; intro _)
    | refine Or.inl ?_
    | ((conv => whnf); first | (refine condW_dec ?_ ?_ <;> intro _ <;> try (exfalso; omega)) | refine condW_not ?_ | (refine condW_bool ?_ ?_ <;> intro _ <;> try (exfalso; omega)) | (refine nbC_t (fun _ => ?_) ?_) | (refine nbC_f ?_ (fun _ => ?_)))
    | refine And.intro (by first | omega | (simp only [Int.toNat_natCast] at *; omega) | (simp only [Nat.reduceAdd, Int.cast_ofNat_Int, true_and, and_true]; omega)  | (simp only [cx, view, Nat.reduceAdd, Int.toNat_natCast]; omega) | kernel_rfl) ?_
    | refine RegW.run ?_
    | fail
  all_goals first
    | (have h0 : l.length = 0 := by assumption
       exact ⟨[], [(7, 25, l.length, rowV l)], rfl, ⟨[(7, none)], ⟨by kernel_rfl, by kernel_rfl, by kernel_rfl, by kernel_rfl, by kernel_rfl, by kernel_rfl, by kernel_rfl⟩, (by repeat' first | (exact h0) | exact trivial | exact rfl | kernel_rfl | exact Dle.of_eq rfl | exact MLe.of_eq rfl | exact Dle.i (by omega) | exact Dle.i (by simp only [Int.toNat_natCast] at *; omega) | exact Dle.nil | exact Dle.rc Dle.nil | exact Option.some_ne_none _ | exact Or.inl rfl | exact Or.inr trivial | omega | (simp only [Int.toNat_natCast] at *; omega) | (intro _ _ _ _; exact Dle.of_eq rfl) | (intro i j hi hj; exact Dle.of_eq (by simp)) | refine And.intro ?_ ?_)⟩, rfl⟩)
    | exact ⟨[], [(7, 25, l.length, rowV l)], rfl, ⟨[(7, some 7)], ⟨by kernel_rfl, by kernel_rfl, by kernel_rfl, by kernel_rfl, by kernel_rfl, by kernel_rfl, by kernel_rfl⟩, (by repeat' first | (exact Nat.zero_add _) | exact trivial | exact rfl | kernel_rfl | exact Dle.of_eq rfl | exact MLe.of_eq rfl | exact Dle.i (by omega) | exact Dle.i (by simp only [Int.toNat_natCast] at *; omega) | exact Dle.nil | exact Dle.rc Dle.nil | exact Option.some_ne_none _ | exact Or.inl rfl | exact Or.inr trivial | omega | (simp only [Int.toNat_natCast] at *; omega) | (intro _ _ _ _; exact Dle.of_eq rfl) | (intro i j hi hj; exact Dle.of_eq (by simp)) | refine And.intro ?_ ?_)⟩, rfl⟩
    | trace_state
theorem cloneK_7 (l : List ByteArray) (hl : l.length * 16 ≤ 140737488355328) : SpH (cx Tryz.prog mixed tyT_ok E) 43 [encStrs l] [] (.own 7 1 0 l.length) [(7, .row 9 l.length (rowK l))] := by
  refine SpH.body Tryz.func43 (by kernel_rfl) rfl (by kernel_rfl) (by kernel_rfl) (by kernel_rfl) ?_
  repeat' first
    | (refine codeW_cond rfl ?_; first | (refine condW_dec ?_ ?_ <;> intro _ <;> try (exfalso; omega)) | refine condW_not ?_ | (refine condW_bool ?_ ?_ <;> intro _ <;> try (exfalso; omega)))
    | (refine facW_intro ?_; intro _)
    | refine Or.inl ?_
    | ((conv => whnf); first | (refine condW_dec ?_ ?_ <;> intro _ <;> try (exfalso; omega)) | refine condW_not ?_ | (refine condW_bool ?_ ?_ <;> intro _ <;> try (exfalso; omega)) | (refine nbC_t (fun _ => ?_) ?_) | (refine nbC_f ?_ (fun _ => ?_)))
    | refine And.intro (by first | omega | (simp only [Int.toNat_natCast] at *; omega) | (simp only [Nat.reduceAdd, Int.cast_ofNat_Int, true_and, and_true]; omega)  | (simp only [cx, view, Nat.reduceAdd, Int.toNat_natCast]; omega) | kernel_rfl) ?_
    | refine RegW.run ?_
    | fail
  all_goals first
    | (have h0 : l.length = 0 := by assumption
       exact ⟨[], [(7, 9, l.length, rowK l)], rfl, ⟨[(7, none)], ⟨by kernel_rfl, by kernel_rfl, by kernel_rfl, by kernel_rfl, by kernel_rfl, by kernel_rfl, by kernel_rfl⟩, (by repeat' first | (exact h0) | exact trivial | exact rfl | kernel_rfl | exact Dle.of_eq rfl | exact MLe.of_eq rfl | exact Dle.i (by omega) | exact Dle.i (by simp only [Int.toNat_natCast] at *; omega) | exact Dle.nil | exact Dle.rc Dle.nil | exact Option.some_ne_none _ | exact Or.inl rfl | exact Or.inr trivial | omega | (simp only [Int.toNat_natCast] at *; omega) | (intro _ _ _ _; exact Dle.of_eq rfl) | (intro i j hi hj; exact Dle.of_eq (by simp)) | refine And.intro ?_ ?_)⟩, rfl⟩)
    | exact ⟨[], [(7, 9, l.length, rowK l)], rfl, ⟨[(7, some 7)], ⟨by kernel_rfl, by kernel_rfl, by kernel_rfl, by kernel_rfl, by kernel_rfl, by kernel_rfl, by kernel_rfl⟩, (by repeat' first | (exact Nat.zero_add _) | exact trivial | exact rfl | kernel_rfl | exact Dle.of_eq rfl | exact MLe.of_eq rfl | exact Dle.i (by omega) | exact Dle.i (by simp only [Int.toNat_natCast] at *; omega) | exact Dle.nil | exact Dle.rc Dle.nil | exact Option.some_ne_none _ | exact Or.inl rfl | exact Or.inr trivial | omega | (simp only [Int.toNat_natCast] at *; omega) | (intro _ _ _ _; exact Dle.of_eq rfl) | (intro i j hi hj; exact Dle.of_eq (by simp)) | refine And.intro ?_ ?_)⟩, rfl⟩
    | trace_state
theorem cloneV_l (L : Nat) (l : List Vu) (hl : l.length * 88 ≤ 140737488355328) : SpH (cx Tryz.prog mixed tyT_ok E) 42 [.rc (.vals l)] [] (.own L 6 0 l.length) [(L, .row 25 l.length (rowV l))] := by
  have h := (cloneV_7 E l hl).swap 7 L
  simpa only [D.renL, D.ren, renH, Ob.ren, swp_l] using h
theorem cloneK_l (L : Nat) (l : List ByteArray) (hl : l.length * 16 ≤ 140737488355328) : SpH (cx Tryz.prog mixed tyT_ok E) 43 [encStrs l] [] (.own L 1 0 l.length) [(L, .row 9 l.length (rowK l))] := by
  have h := (cloneK_7 E l hl).swap 7 L
  simpa only [D.renL, D.ren, renH, Ob.ren, swp_l, encStrs] using h
theorem delV_l (L n i : Nat) (hi : i + 1 ≤ n) (F : Nat → Nat → DD) : SpH (cx Tryz.prog mixed tyT_ok E) 55 [.own L 6 0 n, i64 i, i64 (i + 1 : Nat)] [(L, .row 25 n F)] (.own L 6 0 (n - 1)) [(L, .row 25 (n - 1) (fun k j => if k < i then F k j else F (k + 1) j))] := by
  have h := (dl.delV_at E n i hi F).swap 2000 L
  simpa only [D.renL, D.ren, renH, Ob.ren, swp_l] using h
theorem delK_l (L n i : Nat) (hi : i + 1 ≤ n) (F : Nat → Nat → DD) : SpH (cx Tryz.prog mixed tyT_ok E) 56 [.own L 1 0 n, i64 i, i64 (i + 1 : Nat)] [(L, .row 9 n F)] (.own L 1 0 (n - 1)) [(L, .row 9 (n - 1) (fun k j => if k < i then F k j else F (k + 1) j))] := by
  have h := (dl.delS_at E n i hi F).swap 2000 L
  simpa only [D.renL, D.ren, renH, Ob.ren, swp_l] using h
end
end cr
end Go.Proofs.YtjbgafbijamckaaGreatDoor
