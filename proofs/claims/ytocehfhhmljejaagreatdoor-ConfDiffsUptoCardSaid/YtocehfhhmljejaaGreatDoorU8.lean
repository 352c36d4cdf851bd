/-
  conf.Compare and the reference's CompareOf.
-/
import Derived.Test.YtocehfhhmljejaaGreatDoorU7
namespace Go.Proofs.YtocehfhhmljejaaGreatDoor
open Go.RowKit
set_option linter.unusedVariables false
set_option linter.unusedSimpArgs false
theorem sgn_bit (a b : Bool) : sgn (bitI a) (bitI b) = if a = b then 0 else if b = true then -1 else 1 := by cases a <;> cases b <;> rfl
section
variable (E : Env)
set_option maxRecDepth 100000
set_option maxHeartbeats 4000000 in
theorem compareOf_sp : ∀ (N : Nat) (v w : Vu), SizeOf.sizeOf v < N → Sp (cx Tryz.prog mixed tyT_ok E) 75 [encV v, encV w] (i64 (cmpV v w))
  | 0, v, w, h => by omega
  | N + 1, v, w, h => by
    have ih := fun x y (hx : x ∈ v.items) => compareOf_sp N x y (by have := items_lt v x hx; omega)
    have hb := sgn_bit v.b w.b
    obtain ⟨r, hr⟩ : ∃ r, r = cmpV v w := ⟨_, rfl⟩
    rw [← hr]
    rw [cmpV_eq] at hr
    unfold cmpH at hr
    have c1 := cmpI_sp E v.kind w.kind
    have c2 := cmpI_sp E v.i w.i
    have c3 := strCmp_sp E v.text w.text
    have c4 := slCmp_sp E v.keys w.keys
    generalize sgn v.kind w.kind = a1 at hr c1
    generalize sgn (bitI v.b) (bitI w.b) = a2 at hr hb
    generalize sgn v.i w.i = a3 at hr c2
    generalize cmpS v.text w.text = a4 at hr c3
    generalize cmpK v.keys w.keys 0 = a5 at hr c4
    refine Sp.body Tryz.func75 (by kernel_rfl) rfl (by kernel_rfl) (by kernel_rfl) (by kernel_rfl) ?_
    repeat' first
      | (refine facW_intro ?_; intro _)
      | refine Or.inl ?_
      | ((conv => whnf); first | (refine condW_dec ?_ ?_ <;> intro _) | refine condW_not ?_ | (refine condW_bool ?_ ?_ <;> intro _) | (refine nbC_t (fun _ => ?_) ?_) | (refine nbC_f ?_ (fun _ => ?_)))
      | refine And.intro (by first | omega | (simp only [Int.toNat_natCast] at *; omega) | (simp only [Nat.reduceAdd, Int.cast_ofNat_Int, true_and, and_true]; omega)  | kernel_rfl) ?_
      | refine RegW.run ?_
      | refine ⟨_, c1, ?_⟩
      | refine ⟨_, c2, ?_⟩
      | refine ⟨_, c3, ?_⟩
      | refine ⟨_, c4, ?_⟩
      | refine ⟨_, or3_sp E _ _ _, ?_⟩
      | fail
    all_goals first
      | exact Dle.i (by rw [hr]; grind)
      | skip
    all_goals
      have hr : r = cmpL v.items w.items := by rw [hr]; grind
      refine ⟨Nat, fun k => [(7, i64 k)], fun k => [], [2, 3], fun k => [], fun k => k ≤ v.items.length ∧ k ≤ w.items.length ∧ r = cmpL (v.items.drop k) (w.items.drop k), fun k => v.items.length - k, ⟨0, ⟨by omega, by omega, hr⟩, ⟨[], ⟨by kernel_rfl, by kernel_rfl, by kernel_rfl, by kernel_rfl, by kernel_rfl, by kernel_rfl, by kernel_rfl⟩, (by repeat' first | exact trivial | exact rfl | kernel_rfl | exact Dle.of_eq rfl | exact MLe.of_eq rfl | exact Dle.i (by omega) | exact Dle.i (by simp only [Int.toNat_natCast] at *; omega) | exact Dle.nil | exact Dle.rc Dle.nil | exact Option.some_ne_none _ | exact Or.inl rfl | exact Or.inr trivial | omega | (simp only [Int.toNat_natCast] at *; omega) | (intro _ _ _ _; exact Dle.of_eq rfl) | refine And.intro ?_ ?_)⟩⟩, fun k hk => ?_⟩
      obtain ⟨hk, hk2, hK⟩ := hk
      by_cases hlt : k < v.items.length ∧ k < w.items.length
      · obtain ⟨hl1, hl2⟩ := hlt
        rw [cmpL_drop hl1 hl2] at hK
        have hc := ih _ (w.items.getD k .zero) (getD_mem v.items .zero k hl1)
        generalize cmpV (v.items.getD k .zero) (w.items.getD k .zero) = e at hK hc
        repeat' first
          | (refine facW_intro ?_; intro _)
          | refine Or.inl ?_
          | ((conv => whnf); first | (refine condW_dec ?_ ?_ <;> intro _ <;> try (exfalso; omega)) | refine condW_not ?_ | (refine condW_bool ?_ ?_ <;> intro _ <;> try (exfalso; omega)) | (refine nbC_t (fun _ => ?_) ?_) | (refine nbC_f ?_ (fun _ => ?_)))
          | refine And.intro (by first | omega | (simp only [Int.toNat_natCast] at *; omega) | (simp only [Nat.reduceAdd, Int.cast_ofNat_Int, true_and, and_true]; omega)  | kernel_rfl) ?_
          | refine RegW.run ?_
          | refine ⟨_, hc, ?_⟩
          | fail
        all_goals first
          | exact ⟨k + 1, ⟨by omega, by omega, by rw [hK]; grind⟩, ⟨[], ⟨by kernel_rfl, by kernel_rfl, by kernel_rfl, by kernel_rfl, by kernel_rfl, by kernel_rfl, by kernel_rfl⟩, (by repeat' first | exact trivial | exact rfl | kernel_rfl | exact Dle.of_eq rfl | exact MLe.of_eq rfl | exact Dle.i (by omega) | exact Dle.i (by simp only [Int.toNat_natCast] at *; omega) | exact Dle.nil | exact Dle.rc Dle.nil | exact Option.some_ne_none _ | exact Or.inl rfl | exact Or.inr trivial | omega | (simp only [Int.toNat_natCast] at *; omega) | (intro _ _ _ _; exact Dle.of_eq rfl) | refine And.intro ?_ ?_)⟩, by first | omega | (dsimp only; omega)⟩
          | exact Dle.i (by rw [hK]; grind)
          | trace_state
      · rw [cmpL_end hk hk2 hlt] at hK
        repeat' first
          | (refine facW_intro ?_; intro _)
          | refine Or.inl ?_
          | ((conv => whnf); first | (refine condW_dec ?_ ?_ <;> intro _ <;> try (exfalso; omega)) | refine condW_not ?_ | (refine condW_bool ?_ ?_ <;> intro _ <;> try (exfalso; omega)) | (refine nbC_t (fun _ => ?_) ?_) | (refine nbC_f ?_ (fun _ => ?_)))
          | refine And.intro (by first | omega | (simp only [Int.toNat_natCast] at *; omega) | (simp only [Nat.reduceAdd, Int.cast_ofNat_Int, true_and, and_true]; omega)  | kernel_rfl) ?_
          | refine RegW.run ?_
          | refine ⟨_, cmpI_sp E _ _, ?_⟩
          | fail
        all_goals exact Dle.i (by rw [hK])
end
end Go.Proofs.YtocehfhhmljejaaGreatDoor
