/-
  The reference's settled, ItemFault.
-/
import Derived.Test.YtnealjgndobknaaGreatDoorR2
import Derived.Test.YtnealjgndobknaaGreatDoorQ7
import Derived.Test.YtnealjgndobknaaGreatDoorQ8
namespace Go.Proofs.YtnealjgndobknaaGreatDoor
open Go.RowKit
set_option linter.unusedVariables false
section
variable (E : Env)
set_option maxRecDepth 100000
set_option maxHeartbeats 1000000 in
theorem settled_sp : ∀ (N : Nat) (v : Vu), SizeOf.sizeOf v < N → cnt v ≤ 1000000000000 → Sp (cx Tryz.prog mixed tyT_ok E) 62 [encV v] (encV (setl v))
  | 0, v, h, _ => by omega
  | N + 1, v, h, hb => by
    have ih := fun x (hx : x ∈ v.items) => settled_sp N x (by have := items_lt v x hx; omega) (by have := cnt_mem v.items x hx; rw [cnt_eq] at hb; omega)
    have hlen : v.items.length ≤ 1000000000000 := by have := len_le_cntL v.items; rw [cnt_eq] at hb; omega
    have hS : (v.kind = 7 ∨ v.kind = 8 → skind v.kind = 3) ∧ (¬ (v.kind = 7 ∨ v.kind = 8) → skind v.kind = v.kind) := ⟨fun h => if_pos h, fun h => if_neg h⟩
    rw [setl_eq v, setlL_map]
    refine Sp.body Tryz.func62 (by kernel_rfl) rfl (by kernel_rfl) (by kernel_rfl) (by kernel_rfl) ?_
    repeat' first
      | (refine facW_intro ?_; intro _)
      | refine Or.inl ?_
      | ((conv => whnf); first | (refine condW_dec ?_ ?_ <;> intro _) | refine condW_not ?_ | (refine condW_bool ?_ ?_ <;> intro _))
      | refine And.intro (by first | omega | (simp only [Int.toNat_natCast] at *; omega) | (simp only [Nat.reduceAdd, Int.cast_ofNat_Int, true_and, and_true]; omega) | kernel_rfl) ?_
      | refine RegW.run ?_
      | fail
    all_goals
      refine ⟨Nat, fun k => [(20, i64 k)], fun k => [(3, .cells [i64 (skind v.kind), dB v.b, i64 v.i, dS v.text, .own 20 6 0 k, encStrs v.keys])], [1, 2], fun k => [(20, 31, k, fun i j => (setl (v.items.getD i .zero)).cell j)], fun k => k ≤ v.items.length, fun k => v.items.length - k, ⟨0, by omega, ⟨[(20, none)], ⟨by kernel_rfl, by kernel_rfl, by kernel_rfl, by kernel_rfl, by kernel_rfl, by kernel_rfl, by kernel_rfl⟩, (by repeat' first | exact trivial | exact rfl | kernel_rfl | exact Dle.of_eq rfl | exact Dle.i (by omega) | exact Dle.i (by simp only [Int.toNat_natCast] at *; omega) | exact Dle.nil | exact Dle.rc Dle.nil | exact Option.some_ne_none _ | exact Or.inl rfl | exact Or.inr trivial | omega | (simp only [Int.toNat_natCast] at *; omega) | (intro _ _ _ _; exact Dle.of_eq rfl) | refine And.intro ?_ ?_)⟩⟩, fun k hk => ?_⟩
      have hk : k ≤ v.items.length := hk
      repeat' first
        | (refine facW_intro ?_; intro _)
        | refine Or.inl ?_
        | ((conv => whnf); first | (refine condW_dec ?_ ?_ <;> intro _) | refine condW_not ?_ | (refine condW_bool ?_ ?_ <;> intro _))
        | refine And.intro (by first | omega | (simp only [Int.toNat_natCast] at *; omega) | (simp only [Nat.reduceAdd, Int.cast_ofNat_Int, true_and, and_true]; omega) | kernel_rfl) ?_
        | refine RegW.run ?_
        | refine ⟨_, ih _ (getD_mem v.items .zero k (by omega)), ?_⟩
        | fail
      · repeat' first
          | (refine facW_intro ?_; intro _)
          | refine Or.inl ?_
          | ((conv => whnf); first | (refine condW_dec ?_ ?_ <;> intro _) | refine condW_not ?_ | (refine condW_bool ?_ ?_ <;> intro _))
          | refine And.intro (by first | omega | (simp only [Int.toNat_natCast] at *; omega) | (simp only [Nat.reduceAdd, Int.cast_ofNat_Int, true_and, and_true]; omega) | kernel_rfl) ?_
          | refine RegW.run ?_
          | fail
        exact ⟨k + 1, by omega, ⟨[(20, some 29)], ⟨by kernel_rfl, by kernel_rfl, by kernel_rfl, by kernel_rfl, by kernel_rfl, by kernel_rfl, by kernel_rfl⟩, (by repeat' first | exact trivial | exact rfl | kernel_rfl | exact Dle.of_eq rfl | exact Dle.i (by omega) | exact Dle.i (by simp only [Int.toNat_natCast] at *; omega) | exact Dle.nil | exact Dle.rc Dle.nil | exact Option.some_ne_none _ | exact Or.inl rfl | exact Or.inr trivial | omega | (simp only [Int.toNat_natCast] at *; omega) | (intro _ _ _ _; exact Dle.of_eq rfl) | (intro i j hi hj; exact row_val E (fun i => setl (v.items.getD i .zero)) k i j hi hj) | refine And.intro ?_ ?_)⟩, by first | omega | (dsimp only; omega)⟩
      · have e : k = v.items.length := by omega
        subst e
        refine Dle.agg (X := (cx Tryz.prog mixed tyT_ok E)) ⟨Dle.refl _ _, Dle.refl _ _, Dle.refl _ _, Dle.refl _ _, Dle.rc (X := (cx Tryz.prog mixed tyT_ok E)) (Dle.sl (X := (cx Tryz.prog mixed tyT_ok E)) (show _ = (v.items.map setl).length by simp) (fun i j hi hj => Dle.of_eq ?_)), Dle.refl _ _, trivial⟩
        exact (cell_map setl v.items i j hi).symm
theorem refItem_sp (v : Vu) (hb : cnt v ≤ 1000000000000) : Sp (cx Tryz.prog mixed tyT_ok E) 31 [encV v] (i64 (itemCheckE v)) := by
  have hl := lvl_le_cnt v
  refine Sp.body Tryz.func31 (by kernel_rfl) rfl (by kernel_rfl) (by kernel_rfl) (by kernel_rfl) ?_
  repeat' first
    | (refine facW_intro ?_; intro _)
    | refine Or.inl ?_
    | ((conv => whnf); first | (refine condW_dec ?_ ?_ <;> intro _) | refine condW_not ?_ | (refine condW_bool ?_ ?_ <;> intro _))
    | refine And.intro (by first | omega | (simp only [Int.toNat_natCast] at *; omega) | (simp only [Nat.reduceAdd, Int.cast_ofNat_Int, true_and, and_true]; omega) | kernel_rfl) ?_
    | refine RegW.run ?_
    | refine ⟨_, valuesOf_sp E _ v (Nat.lt_succ_self _) (by omega), ?_⟩
    | refine ⟨_, levelsOf_sp E _ v (Nat.lt_succ_self _) (by omega), ?_⟩
    | refine ⟨_, settled_sp E _ v (Nat.lt_succ_self _) hb, ?_⟩
    | refine ⟨_, eachValue_sp E _ (setl v) (Nat.lt_succ_self _), ?_⟩
    | fail
  all_goals exact Dle.i (by unfold itemCheckE; rw [item_fault]; grind)
end
end Go.Proofs.YtnealjgndobknaaGreatDoor
