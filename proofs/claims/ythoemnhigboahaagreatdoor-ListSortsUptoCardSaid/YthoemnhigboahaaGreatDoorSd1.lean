/-
  conf.Compare. The order of values is one: it turns about and carries over. The order of keyed items, plain. The comparisons of list.Sort and of mastref2.SortOf.
-/
import Derived.Test.YthoemnhigboahaaGreatDoorU8
import Derived.Test.YthoemnhigboahaaGreatDoorSb0
import Derived.Test.YthoemnhigboahaaGreatDoorU7
import Derived.Test.YthoemnhigboahaaGreatDoorU5
import Derived.Test.YthoemnhigboahaaGreatDoorU6
import Derived.Test.YthoemnhigboahaaGreatDoorSc0
namespace Go.Proofs.YthoemnhigboahaaGreatDoor
open Go.RowKit
set_option linter.unusedVariables false
set_option linter.unusedSimpArgs false
section
variable (E : Env)
set_option maxRecDepth 100000
set_option maxHeartbeats 4000000 in
theorem compare_sp : ∀ (N : Nat) (v w : Vu), SizeOf.sizeOf v < N → Sp (cx Tryz.prog mixed tyT_ok E) 93 [encV v, encV w] (i64 (cmpV v w))
  | 0, v, w, h => by omega
  | N + 1, v, w, h => by
    have ih := fun x y (hx : x ∈ v.items) => compare_sp N x y (by have := items_lt v x hx; omega)
    obtain ⟨r, hr⟩ : ∃ r, r = cmpV v w := ⟨_, rfl⟩
    rw [← hr]
    rw [cmpV_eq] at hr
    unfold cmpH at hr
    have c1 := sign_sp E v.kind w.kind
    have c2 := sign_sp E (bitI v.b) (bitI w.b)
    have c3 := sign_sp E v.i w.i
    have c4 := strCmp_sp E v.text w.text
    have b1 := bit_sp E v.b
    have b2 := bit_sp E w.b
    generalize sgn v.kind w.kind = a1 at hr c1
    generalize sgn (bitI v.b) (bitI w.b) = a2 at hr c2
    generalize sgn v.i w.i = a3 at hr c3
    generalize cmpS v.text w.text = a4 at hr c4
    obtain ⟨a5, h5⟩ : ∃ a5, a5 = cmpK v.keys w.keys 0 := ⟨_, rfl⟩
    rw [← h5] at hr
    refine Sp.body Tryz.func93 (by kernel_rfl) rfl (by kernel_rfl) (by kernel_rfl) (by kernel_rfl) ?_
    repeat' first
      | (refine facW_intro ?_; intro _)
      | refine Or.inl ?_
      | ((conv => whnf); first | (refine condW_dec ?_ ?_ <;> intro _) | refine condW_not ?_ | (refine condW_bool ?_ ?_ <;> intro _) | (refine nbC_t (fun _ => ?_) ?_) | (refine nbC_f ?_ (fun _ => ?_)))
      | refine And.intro (by first | omega | (simp only [Int.toNat_natCast] at *; omega) | (simp only [Nat.reduceAdd, Int.cast_ofNat_Int, true_and, and_true]; omega)  | kernel_rfl) ?_
      | refine RegW.run ?_
      | refine ⟨_, c1, ?_⟩
      | refine ⟨_, b1, ?_⟩
      | refine ⟨_, b2, ?_⟩
      | refine ⟨_, c2, ?_⟩
      | refine ⟨_, c3, ?_⟩
      | refine ⟨_, c4, ?_⟩
      | fail
    refine ⟨Nat, fun k => [(36, i64 k)], fun k => [], [2, 3, 34], fun k => [], fun k => k ≤ 4 ∧ (0 < k → a1 = 0) ∧ (1 < k → a2 = 0) ∧ (2 < k → a3 = 0) ∧ (3 < k → a4 = 0), fun k => 4 - k, ⟨0, ⟨by omega, fun h => by omega, fun h => by omega, fun h => by omega, fun h => by omega⟩, ⟨[], ⟨by kernel_rfl, by kernel_rfl, by kernel_rfl, by kernel_rfl, by kernel_rfl, by kernel_rfl, by kernel_rfl⟩, (by repeat' first | exact trivial | exact rfl | kernel_rfl | exact Dle.of_eq rfl | exact MLe.of_eq rfl | exact Dle.i (by omega) | exact Dle.i (by simp only [Int.toNat_natCast] at *; omega) | exact Dle.nil | exact Dle.rc Dle.nil | exact Option.some_ne_none _ | exact Or.inl rfl | exact Or.inr trivial | omega | (simp only [Int.toNat_natCast] at *; omega) | (intro _ _ _ _; exact Dle.of_eq rfl) | refine And.intro ?_ ?_)⟩⟩, fun k hk => ?_⟩
    obtain ⟨hk, z1, z2, z3, z4⟩ := hk
    match k, hk with
    | 0, _ =>
      repeat' first
        | (refine facW_intro ?_; intro _)
        | refine Or.inl ?_
        | ((conv => whnf); first | (refine condW_dec ?_ ?_ <;> intro _ <;> try (exfalso; omega)) | refine condW_not ?_ | (refine condW_bool ?_ ?_ <;> intro _ <;> try (exfalso; omega)) | (refine nbC_t (fun _ => ?_) ?_) | (refine nbC_f ?_ (fun _ => ?_)))
        | refine And.intro (by first | omega | (simp only [Int.toNat_natCast] at *; omega) | (simp only [Nat.reduceAdd, Int.cast_ofNat_Int, true_and, and_true]; omega)  | kernel_rfl) ?_
        | refine RegW.run ?_
        | fail
      · rename_i h
        exact ⟨1, ⟨by omega, fun _ => h, fun h => by omega, fun h => by omega, fun h => by omega⟩, ⟨[], ⟨by kernel_rfl, by kernel_rfl, by kernel_rfl, by kernel_rfl, by kernel_rfl, by kernel_rfl, by kernel_rfl⟩, (by repeat' first | exact trivial | exact rfl | kernel_rfl | exact Dle.of_eq rfl | exact MLe.of_eq rfl | exact Dle.i (by omega) | exact Dle.i (by simp only [Int.toNat_natCast] at *; omega) | exact Dle.nil | exact Dle.rc Dle.nil | exact Option.some_ne_none _ | exact Or.inl rfl | exact Or.inr trivial | omega | (simp only [Int.toNat_natCast] at *; omega) | (intro _ _ _ _; exact Dle.of_eq rfl) | refine And.intro ?_ ?_)⟩, by first | omega | (dsimp only; omega)⟩
      · rename_i h
        exact Dle.i (by rw [hr]; grind)
    | 1, _ =>
      have z1 := z1 (by omega)
      repeat' first
        | (refine facW_intro ?_; intro _)
        | refine Or.inl ?_
        | ((conv => whnf); first | (refine condW_dec ?_ ?_ <;> intro _ <;> try (exfalso; omega)) | refine condW_not ?_ | (refine condW_bool ?_ ?_ <;> intro _ <;> try (exfalso; omega)) | (refine nbC_t (fun _ => ?_) ?_) | (refine nbC_f ?_ (fun _ => ?_)))
        | refine And.intro (by first | omega | (simp only [Int.toNat_natCast] at *; omega) | (simp only [Nat.reduceAdd, Int.cast_ofNat_Int, true_and, and_true]; omega)  | kernel_rfl) ?_
        | refine RegW.run ?_
        | fail
      · rename_i h
        exact ⟨2, ⟨by omega, fun _ => z1, fun _ => h, fun h => by omega, fun h => by omega⟩, ⟨[], ⟨by kernel_rfl, by kernel_rfl, by kernel_rfl, by kernel_rfl, by kernel_rfl, by kernel_rfl, by kernel_rfl⟩, (by repeat' first | exact trivial | exact rfl | kernel_rfl | exact Dle.of_eq rfl | exact MLe.of_eq rfl | exact Dle.i (by omega) | exact Dle.i (by simp only [Int.toNat_natCast] at *; omega) | exact Dle.nil | exact Dle.rc Dle.nil | exact Option.some_ne_none _ | exact Or.inl rfl | exact Or.inr trivial | omega | (simp only [Int.toNat_natCast] at *; omega) | (intro _ _ _ _; exact Dle.of_eq rfl) | refine And.intro ?_ ?_)⟩, by first | omega | (dsimp only; omega)⟩
      · rename_i h
        exact Dle.i (by rw [hr]; grind)
    | 2, _ =>
      have z1 := z1 (by omega)
      have z2 := z2 (by omega)
      repeat' first
        | (refine facW_intro ?_; intro _)
        | refine Or.inl ?_
        | ((conv => whnf); first | (refine condW_dec ?_ ?_ <;> intro _ <;> try (exfalso; omega)) | refine condW_not ?_ | (refine condW_bool ?_ ?_ <;> intro _ <;> try (exfalso; omega)) | (refine nbC_t (fun _ => ?_) ?_) | (refine nbC_f ?_ (fun _ => ?_)))
        | refine And.intro (by first | omega | (simp only [Int.toNat_natCast] at *; omega) | (simp only [Nat.reduceAdd, Int.cast_ofNat_Int, true_and, and_true]; omega)  | kernel_rfl) ?_
        | refine RegW.run ?_
        | fail
      · rename_i h
        exact ⟨3, ⟨by omega, fun _ => z1, fun _ => z2, fun _ => h, fun h => by omega⟩, ⟨[], ⟨by kernel_rfl, by kernel_rfl, by kernel_rfl, by kernel_rfl, by kernel_rfl, by kernel_rfl, by kernel_rfl⟩, (by repeat' first | exact trivial | exact rfl | kernel_rfl | exact Dle.of_eq rfl | exact MLe.of_eq rfl | exact Dle.i (by omega) | exact Dle.i (by simp only [Int.toNat_natCast] at *; omega) | exact Dle.nil | exact Dle.rc Dle.nil | exact Option.some_ne_none _ | exact Or.inl rfl | exact Or.inr trivial | omega | (simp only [Int.toNat_natCast] at *; omega) | (intro _ _ _ _; exact Dle.of_eq rfl) | refine And.intro ?_ ?_)⟩, by first | omega | (dsimp only; omega)⟩
      · rename_i h
        exact Dle.i (by rw [hr]; grind)
    | 3, _ =>
      have z1 := z1 (by omega)
      have z2 := z2 (by omega)
      have z3 := z3 (by omega)
      repeat' first
        | (refine facW_intro ?_; intro _)
        | refine Or.inl ?_
        | ((conv => whnf); first | (refine condW_dec ?_ ?_ <;> intro _ <;> try (exfalso; omega)) | refine condW_not ?_ | (refine condW_bool ?_ ?_ <;> intro _ <;> try (exfalso; omega)) | (refine nbC_t (fun _ => ?_) ?_) | (refine nbC_f ?_ (fun _ => ?_)))
        | refine And.intro (by first | omega | (simp only [Int.toNat_natCast] at *; omega) | (simp only [Nat.reduceAdd, Int.cast_ofNat_Int, true_and, and_true]; omega)  | kernel_rfl) ?_
        | refine RegW.run ?_
        | fail
      · rename_i h
        exact ⟨4, ⟨by omega, fun _ => z1, fun _ => z2, fun _ => z3, fun _ => h⟩, ⟨[], ⟨by kernel_rfl, by kernel_rfl, by kernel_rfl, by kernel_rfl, by kernel_rfl, by kernel_rfl, by kernel_rfl⟩, (by repeat' first | exact trivial | exact rfl | kernel_rfl | exact Dle.of_eq rfl | exact MLe.of_eq rfl | exact Dle.i (by omega) | exact Dle.i (by simp only [Int.toNat_natCast] at *; omega) | exact Dle.nil | exact Dle.rc Dle.nil | exact Option.some_ne_none _ | exact Or.inl rfl | exact Or.inr trivial | omega | (simp only [Int.toNat_natCast] at *; omega) | (intro _ _ _ _; exact Dle.of_eq rfl) | refine And.intro ?_ ?_)⟩, by first | omega | (dsimp only; omega)⟩
      · rename_i h
        exact Dle.i (by rw [hr]; grind)
    | 4, _ =>
      have z1 := z1 (by omega)
      have z2 := z2 (by omega)
      have z3 := z3 (by omega)
      have z4 := z4 (by omega)
      have hr : r = if a5 ≠ 0 then a5 else cmpL v.items w.items := by rw [hr]; grind
      repeat' first
        | (refine facW_intro ?_; intro _)
        | refine Or.inl ?_
        | ((conv => whnf); first | (refine condW_dec ?_ ?_ <;> intro _ <;> try (exfalso; omega)) | refine condW_not ?_ | (refine condW_bool ?_ ?_ <;> intro _ <;> try (exfalso; omega)) | (refine nbC_t (fun _ => ?_) ?_) | (refine nbC_f ?_ (fun _ => ?_)))
        | refine And.intro (by first | omega | (simp only [Int.toNat_natCast] at *; omega) | (simp only [Nat.reduceAdd, Int.cast_ofNat_Int, true_and, and_true]; omega)  | kernel_rfl) ?_
        | refine RegW.run ?_
        | fail
      refine ⟨Nat, fun k => [(7, i64 k)], fun k => [], [2, 3], fun k => [], fun k => k ≤ v.keys.length ∧ k ≤ w.keys.length ∧ a5 = cmpK v.keys w.keys k, fun k => v.keys.length - k, ⟨0, ⟨by omega, by omega, h5⟩, ⟨[], ⟨by kernel_rfl, by kernel_rfl, by kernel_rfl, by kernel_rfl, by kernel_rfl, by kernel_rfl, by kernel_rfl⟩, (by repeat' first | exact trivial | exact rfl | kernel_rfl | exact Dle.of_eq rfl | exact MLe.of_eq rfl | exact Dle.i (by omega) | exact Dle.i (by simp only [Int.toNat_natCast] at *; omega) | exact Dle.nil | exact Dle.rc Dle.nil | exact Option.some_ne_none _ | exact Or.inl rfl | exact Or.inr trivial | omega | (simp only [Int.toNat_natCast] at *; omega) | (intro _ _ _ _; exact Dle.of_eq rfl) | refine And.intro ?_ ?_)⟩⟩, fun k hk => ?_⟩
      obtain ⟨hk, hk2, hK⟩ := hk
      by_cases hlt : k < v.keys.length ∧ k < w.keys.length
      · have hc := strCmp_sp E (v.keys.getD k ⟨#[]⟩) (w.keys.getD k ⟨#[]⟩)
        have q1 := @cmpK_eq v.keys w.keys k hlt
        have q2 := @cmpK_ne v.keys w.keys k hlt
        obtain ⟨hl1, hl2⟩ := hlt
        generalize cmpS (v.keys.getD k ⟨#[]⟩) (w.keys.getD k ⟨#[]⟩) = e at q1 q2 hc
        repeat' first
          | (refine facW_intro ?_; intro _)
          | refine Or.inl ?_
          | ((conv => whnf); first | (refine condW_dec ?_ ?_ <;> intro _ <;> try (exfalso; omega)) | refine condW_not ?_ | (refine condW_bool ?_ ?_ <;> intro _ <;> try (exfalso; omega)) | (refine nbC_t (fun _ => ?_) ?_) | (refine nbC_f ?_ (fun _ => ?_)))
          | refine And.intro (by first | omega | (simp only [Int.toNat_natCast] at *; omega) | (simp only [Nat.reduceAdd, Int.cast_ofNat_Int, true_and, and_true]; omega)  | kernel_rfl) ?_
          | refine RegW.run ?_
          | refine ⟨_, hc, ?_⟩
          | fail
        · rename_i h
          exact ⟨k + 1, ⟨by omega, by omega, by rw [hK, q1 h]⟩, ⟨[], ⟨by kernel_rfl, by kernel_rfl, by kernel_rfl, by kernel_rfl, by kernel_rfl, by kernel_rfl, by kernel_rfl⟩, (by repeat' first | exact trivial | exact rfl | kernel_rfl | exact Dle.of_eq rfl | exact MLe.of_eq rfl | exact Dle.i (by omega) | exact Dle.i (by simp only [Int.toNat_natCast] at *; omega) | exact Dle.nil | exact Dle.rc Dle.nil | exact Option.some_ne_none _ | exact Or.inl rfl | exact Or.inr trivial | omega | (simp only [Int.toNat_natCast] at *; omega) | (intro _ _ _ _; exact Dle.of_eq rfl) | refine And.intro ?_ ?_)⟩, by first | omega | (dsimp only; omega)⟩
        · rename_i h
          have h6 : a5 = e := by rw [hK, q2 h]
          exact Dle.i (by rw [hr]; grind)
      · rw [cmpK_end hlt] at hK
        have hc := sign_sp E v.keys.length w.keys.length
        rw [← hK] at hc
        repeat' first
          | (refine facW_intro ?_; intro _)
          | refine Or.inl ?_
          | ((conv => whnf); first | (refine condW_dec ?_ ?_ <;> intro _ <;> try (exfalso; omega)) | refine condW_not ?_ | (refine condW_bool ?_ ?_ <;> intro _ <;> try (exfalso; omega)) | (refine nbC_t (fun _ => ?_) ?_) | (refine nbC_f ?_ (fun _ => ?_)))
          | refine And.intro (by first | omega | (simp only [Int.toNat_natCast] at *; omega) | (simp only [Nat.reduceAdd, Int.cast_ofNat_Int, true_and, and_true]; omega)  | kernel_rfl) ?_
          | refine RegW.run ?_
          | refine ⟨_, hc, ?_⟩
          | fail
        all_goals first
          | exact Dle.i (by rw [hr]; grind)
          | skip
        all_goals
          have hr : r = cmpL v.items w.items := by rw [hr]; grind
          refine ⟨Nat, fun k => [(10, i64 k)], fun k => [], [2, 3], fun k => [], fun k => k ≤ v.items.length ∧ k ≤ w.items.length ∧ r = cmpL (v.items.drop k) (w.items.drop k), fun k => v.items.length - k, ⟨0, ⟨by omega, by omega, hr⟩, ⟨[], ⟨by kernel_rfl, by kernel_rfl, by kernel_rfl, by kernel_rfl, by kernel_rfl, by kernel_rfl, by kernel_rfl⟩, (by repeat' first | exact trivial | exact rfl | kernel_rfl | exact Dle.of_eq rfl | exact MLe.of_eq rfl | exact Dle.i (by omega) | exact Dle.i (by simp only [Int.toNat_natCast] at *; omega) | exact Dle.nil | exact Dle.rc Dle.nil | exact Option.some_ne_none _ | exact Or.inl rfl | exact Or.inr trivial | omega | (simp only [Int.toNat_natCast] at *; omega) | (intro _ _ _ _; exact Dle.of_eq rfl) | refine And.intro ?_ ?_)⟩⟩, fun k hk => ?_⟩
          obtain ⟨hk, hk2, hK⟩ := hk
          by_cases hlt : k < v.items.length ∧ k < w.items.length
          · obtain ⟨hl1, hl2⟩ := hlt
            rw [cmpL_drop hl1 hl2] at hK
            have hc := ih _ (w.items.getD k .zero) (getD_mem v.items .zero k hl1)
            generalize cmpV (v.items.getD k .zero) (w.items.getD k .zero) = e at hK hc
            repeat' first
              | (refine facW_intro ?_; intro _)
              | refine Or.inl ?_
              | ((conv => whnf); first | (refine condW_dec ?_ ?_ <;> intro _ <;> try (exfalso; omega)) | refine condW_not ?_ | (refine condW_bool ?_ ?_ <;> intro _ <;> try (exfalso; omega)) | (refine nbC_t (fun _ => ?_) ?_) | (refine nbC_f ?_ (fun _ => ?_)))
              | refine And.intro (by first | omega | (simp only [Int.toNat_natCast] at *; omega) | (simp only [Nat.reduceAdd, Int.cast_ofNat_Int, true_and, and_true]; omega)  | kernel_rfl) ?_
              | refine RegW.run ?_
              | refine ⟨_, hc, ?_⟩
              | fail
            all_goals first
              | exact ⟨k + 1, ⟨by omega, by omega, by rw [hK]; grind⟩, ⟨[], ⟨by kernel_rfl, by kernel_rfl, by kernel_rfl, by kernel_rfl, by kernel_rfl, by kernel_rfl, by kernel_rfl⟩, (by repeat' first | exact trivial | exact rfl | kernel_rfl | exact Dle.of_eq rfl | exact MLe.of_eq rfl | exact Dle.i (by omega) | exact Dle.i (by simp only [Int.toNat_natCast] at *; omega) | exact Dle.nil | exact Dle.rc Dle.nil | exact Option.some_ne_none _ | exact Or.inl rfl | exact Or.inr trivial | omega | (simp only [Int.toNat_natCast] at *; omega) | (intro _ _ _ _; exact Dle.of_eq rfl) | refine And.intro ?_ ?_)⟩, by first | omega | (dsimp only; omega)⟩
              | exact Dle.i (by rw [hK]; grind)
              | trace_state
          · rw [cmpL_end hk hk2 hlt] at hK
            repeat' first
              | (refine facW_intro ?_; intro _)
              | refine Or.inl ?_
              | ((conv => whnf); first | (refine condW_dec ?_ ?_ <;> intro _ <;> try (exfalso; omega)) | refine condW_not ?_ | (refine condW_bool ?_ ?_ <;> intro _ <;> try (exfalso; omega)) | (refine nbC_t (fun _ => ?_) ?_) | (refine nbC_f ?_ (fun _ => ?_)))
              | refine And.intro (by first | omega | (simp only [Int.toNat_natCast] at *; omega) | (simp only [Nat.reduceAdd, Int.cast_ofNat_Int, true_and, and_true]; omega)  | kernel_rfl) ?_
              | refine RegW.run ?_
              | refine ⟨_, sign_sp E _ _, ?_⟩
              | fail
            all_goals exact Dle.i (by rw [hK])
end
end Go.Proofs.YthoemnhigboahaaGreatDoor
namespace Go.Proofs.YthoemnhigboahaaGreatDoor
open Go.RowKit
set_option linter.unusedVariables false
set_option linter.unusedSimpArgs false
namespace sb
def Tr (x y z : Int) : Prop := (x ≤ 0 → y ≤ 0 → z ≤ 0 ∧ (x < 0 ∨ y < 0 → z < 0)) ∧ (x = 0 → y = 0 → z = 0)
theorem Tr.n : Tr 0 0 0 := by unfold Tr; omega
theorem Tr.l (y : Int) : Tr (-1) y (-1) := by unfold Tr; omega
theorem Tr.l2 : Tr 0 (-1) (-1) := by unfold Tr; omega
theorem Tr.r (y z : Int) : Tr 1 y z := by unfold Tr; omega
theorem Tr.r2 (x z : Int) : Tr x 1 z := by unfold Tr; omega
theorem Tr.lex {x1 y1 z1 x2 y2 z2 : Int} (h1 : Tr x1 y1 z1) (h2 : x1 = 0 → y1 = 0 → Tr x2 y2 z2) : Tr (if x1 ≠ 0 then x1 else x2) (if y1 ≠ 0 then y1 else y2) (if z1 ≠ 0 then z1 else z2) := by
  unfold Tr at *
  by_cases a : x1 = 0
  · by_cases b : y1 = 0
    · have c := h1.2 a b
      rw [if_neg (by omega), if_neg (by omega), if_neg (by omega)]
      exact h2 a b
    · rw [if_neg (by omega), if_pos b]
      by_cases c : z1 = 0
      · rw [if_neg (by omega)]; omega
      · rw [if_pos c]; omega
  · rw [if_pos a]
    by_cases b : y1 = 0
    · rw [if_neg (by omega)]
      by_cases c : z1 = 0
      · rw [if_neg (by omega)]; omega
      · rw [if_pos c]; omega
    · rw [if_pos b]
      by_cases c : z1 = 0
      · rw [if_neg (by omega)]; omega
      · rw [if_pos c]; omega
theorem anti_lex {x1 y1 x2 y2 : Int} (h1 : y1 = -x1) (h2 : x1 = 0 → y2 = -x2) : (if y1 ≠ 0 then y1 else y2) = -(if x1 ≠ 0 then x1 else x2) := by
  by_cases a : x1 = 0
  · rw [if_neg (by omega), if_neg (by omega), h2 a]
  · rw [if_pos (by omega), if_pos a, h1]
theorem sgn_anti (a b : Int) : sgn b a = - sgn a b := by unfold sgn; repeat' split <;> omega
theorem sgn_tr (a b d : Int) : Tr (sgn a b) (sgn b d) (sgn a d) := by
  unfold Tr sgn
  by_cases h1 : a < b <;> by_cases h2 : b < a <;> by_cases h3 : b < d <;> by_cases h4 : d < b <;> by_cases h5 : a < d <;> by_cases h6 : d < a <;> simp [h1, h2, h3, h4, h5, h6] <;> omega
theorem cmpB_cons (x y : UInt8) (a b : List UInt8) : Lib.compareBytes (x :: a) (y :: b) = if sgn x.toNat y.toNat ≠ 0 then sgn x.toNat y.toNat else Lib.compareBytes a b := by
  rw [Lib.compareBytes]
  unfold sgn
  by_cases h : x = y
  · subst h
    simp
  · rcases UInt8.lt_or_lt_of_ne h with h2 | h2
    · have h3 := UInt8.lt_iff_toNat_lt.1 h2
      have h4 : ((x.toNat : Int) < y.toNat) := by omega
      simp [h2, h, h4]
    · have h3 := UInt8.lt_iff_toNat_lt.1 h2
      have h4 : ((y.toNat : Int) < x.toNat) := by omega
      have h5 : ¬ ((x.toNat : Int) < y.toNat) := by omega
      have h6 : ¬ x < y := UInt8.lt_asymm h2
      simp [h2, h, h4, h5, h6]
theorem cmpB_anti : ∀ a b : List UInt8, Lib.compareBytes b a = - Lib.compareBytes a b
  | [], [] => rfl
  | [], _ :: _ => rfl
  | _ :: _, [] => rfl
  | x :: a, y :: b => by
    rw [cmpB_cons, cmpB_cons]
    exact anti_lex (sgn_anti _ _) (fun _ => cmpB_anti a b)
theorem cmpB_tr : ∀ a b d : List UInt8, Tr (Lib.compareBytes a b) (Lib.compareBytes b d) (Lib.compareBytes a d)
  | [], [], [] => Tr.n
  | [], [], _ :: _ => Tr.l2
  | [], _ :: _, [] => Tr.r2 _ _
  | [], _ :: _, _ :: _ => Tr.l _
  | _ :: _, [], _ => Tr.r _ _
  | _ :: _, _ :: _, [] => Tr.r2 _ _
  | x :: a, y :: b, z :: d => by
    rw [cmpB_cons, cmpB_cons, cmpB_cons]
    exact (sgn_tr _ _ _).lex (fun _ _ => cmpB_tr a b d)
theorem cmpS_anti (a b : ByteArray) : cmpS b a = - cmpS a b := cmpB_anti _ _
theorem cmpS_tr (a b d : ByteArray) : Tr (cmpS a b) (cmpS b d) (cmpS a d) := cmpB_tr _ _ _
def cmpKL : List ByteArray → List ByteArray → Int
  | [], [] => 0
  | [], _ :: _ => -1
  | _ :: _, [] => 1
  | x :: r, y :: s => if cmpS x y ≠ 0 then cmpS x y else cmpKL r s
theorem cmpKL_anti : ∀ a b : List ByteArray, cmpKL b a = - cmpKL a b
  | [], [] => rfl
  | [], _ :: _ => rfl
  | _ :: _, [] => rfl
  | x :: a, y :: b => anti_lex (cmpS_anti _ _) (fun _ => cmpKL_anti a b)
theorem cmpKL_tr : ∀ a b d : List ByteArray, Tr (cmpKL a b) (cmpKL b d) (cmpKL a d)
  | [], [], [] => Tr.n
  | [], [], _ :: _ => Tr.l2
  | [], _ :: _, [] => Tr.r2 _ _
  | [], _ :: _, _ :: _ => Tr.l _
  | _ :: _, [], _ => Tr.r _ _
  | _ :: _, _ :: _, [] => Tr.r2 _ _
  | x :: a, y :: b, z :: d => (cmpS_tr x y z).lex (fun _ _ => cmpKL_tr a b d)
theorem cmpK_list (a b : List ByteArray) : ∀ (n k : Nat), a.length - k < n → k ≤ a.length → k ≤ b.length → cmpK a b k = cmpKL (a.drop k) (b.drop k)
  | 0, k, h, _, _ => by omega
  | n + 1, k, h, h1, h2 => by
    by_cases hk : k < a.length ∧ k < b.length
    · rw [drop_cons a ⟨#[]⟩ k hk.1, drop_cons b ⟨#[]⟩ k hk.2, cmpKL]
      by_cases he : cmpS (a.getD k ⟨#[]⟩) (b.getD k ⟨#[]⟩) = 0
      · rw [cmpK_eq hk he, cmpK_list a b n (k + 1) (by omega) (by omega) (by omega), if_neg (by omega)]
      · rw [cmpK_ne hk he, if_pos he]
    · rw [cmpK_end hk]
      rcases Nat.lt_or_ge k a.length with q | q
      · rw [drop_cons a ⟨#[]⟩ k q, List.drop_of_length_le (by omega : b.length ≤ k)]
        simp only [cmpKL, sgn]
        rw [if_neg (by omega), if_pos (by omega)]
      · rw [List.drop_of_length_le q]
        rcases Nat.lt_or_ge k b.length with q2 | q2
        · rw [drop_cons b ⟨#[]⟩ k q2]
          simp only [cmpKL, sgn]
          rw [if_pos (by omega)]
        · rw [List.drop_of_length_le q2]
          simp only [cmpKL, sgn]
          rw [if_neg (by omega), if_neg (by omega)]
theorem cmpK_zero (a b : List ByteArray) : cmpK a b 0 = cmpKL a b := cmpK_list a b (a.length + 1) 0 (by omega) (by omega) (by omega)
theorem cmpH_anti (a b : Vu) : cmpH b a = - cmpH a b := by
  unfold cmpH
  rw [cmpK_zero, cmpK_zero]
  exact anti_lex (sgn_anti _ _) fun _ => anti_lex (sgn_anti _ _) fun _ => anti_lex (sgn_anti _ _) fun _ => anti_lex (cmpS_anti _ _) fun _ => cmpKL_anti _ _
theorem cmpH_tr (a b d : Vu) : Tr (cmpH a b) (cmpH b d) (cmpH a d) := by
  unfold cmpH
  rw [cmpK_zero, cmpK_zero, cmpK_zero]
  exact (sgn_tr _ _ _).lex fun _ _ => (sgn_tr _ _ _).lex fun _ _ => (sgn_tr _ _ _).lex fun _ _ => (cmpS_tr _ _ _).lex fun _ _ => cmpKL_tr _ _ _
mutual
theorem cmpV_anti : ∀ a b : Vu, cmpV b a = - cmpV a b
  | .mk k b i t l ks, w => by
    rw [cmpV_eq, cmpV_eq]
    exact anti_lex (cmpH_anti _ _) fun _ => cmpL_anti l w.items
theorem cmpL_anti : ∀ a b : List Vu, cmpL b a = - cmpL a b
  | [], [] => by simp only [cmpL]; rfl
  | [], _ :: _ => by simp only [cmpL]; rfl
  | _ :: _, [] => by simp only [cmpL]
  | x :: a, y :: b => by
    simp only [cmpL]
    exact anti_lex (cmpV_anti x y) fun _ => cmpL_anti a b
end
mutual
theorem cmpV_tr : ∀ a b d : Vu, Tr (cmpV a b) (cmpV b d) (cmpV a d)
  | .mk k b i t l ks, v, w => by
    rw [cmpV_eq, cmpV_eq, cmpV_eq]
    exact (cmpH_tr _ _ _).lex fun _ _ => cmpL_tr l v.items w.items
theorem cmpL_tr : ∀ a b d : List Vu, Tr (cmpL a b) (cmpL b d) (cmpL a d)
  | [], [], [] => by simp only [cmpL]; exact Tr.n
  | [], [], _ :: _ => by simp only [cmpL]; exact Tr.l2
  | [], _ :: _, [] => by simp only [cmpL]; exact Tr.r2 _ _
  | [], _ :: _, _ :: _ => by simp only [cmpL]; exact Tr.l _
  | _ :: _, [], d => by simp only [cmpL]; exact Tr.r _ _
  | _ :: _, _ :: _, [] => by simp only [cmpL]; exact Tr.r2 _ _
  | x :: a, y :: b, z :: d => by
    simp only [cmpL]
    exact (cmpV_tr x y z).lex fun _ _ => cmpL_tr a b d
end
theorem wk_of {α : Type} {c : α → α → Int} (ha : ∀ a b, c b a = - c a b) (ht : ∀ a b d, Tr (c a b) (c b d) (c a d)) : Wk (fun a b => decide (c a b < 0)) where
  asym := fun a b h => by
    have h1 := ha a b
    have h2 := of_decide_eq_true h
    exact decide_eq_false (by omega)
  ntr := fun a b d h1 h2 => by
    have h3 := of_decide_eq_false h1
    have h4 := of_decide_eq_false h2
    have h5 := ht d b a
    have h6 := ha a b
    have h7 := ha b d
    have h8 := ha a d
    unfold Tr at h5
    exact decide_eq_false (by omega)
end sb
end Go.Proofs.YthoemnhigboahaaGreatDoor
namespace Go.Proofs.YthoemnhigboahaaGreatDoor
open Go.RowKit
set_option linter.unusedVariables false
set_option linter.unusedSimpArgs false
namespace sb
theorem lex_bd {x y : Int} (h1 : -1 ≤ x ∧ x ≤ 1) (h2 : -1 ≤ y ∧ y ≤ 1) : -1 ≤ (if x ≠ 0 then x else y) ∧ (if x ≠ 0 then x else y) ≤ 1 := by split <;> assumption
theorem sgn_bd (a b : Int) : -1 ≤ sgn a b ∧ sgn a b ≤ 1 := by unfold sgn; repeat' split <;> omega
theorem cmpB_bd : ∀ a b : List UInt8, -1 ≤ Lib.compareBytes a b ∧ Lib.compareBytes a b ≤ 1
  | [], [] => (by omega : (-1 : Int) ≤ 0 ∧ (0 : Int) ≤ 1)
  | [], _ :: _ => (by omega : (-1 : Int) ≤ -1 ∧ (-1 : Int) ≤ 1)
  | _ :: _, [] => (by omega : (-1 : Int) ≤ 1 ∧ (1 : Int) ≤ 1)
  | x :: a, y :: b => by
    rw [cmpB_cons]
    exact lex_bd (sgn_bd _ _) (cmpB_bd a b)
theorem cmpKL_bd : ∀ a b : List ByteArray, -1 ≤ cmpKL a b ∧ cmpKL a b ≤ 1
  | [], [] => (by omega : (-1 : Int) ≤ 0 ∧ (0 : Int) ≤ 1)
  | [], _ :: _ => (by omega : (-1 : Int) ≤ -1 ∧ (-1 : Int) ≤ 1)
  | _ :: _, [] => (by omega : (-1 : Int) ≤ 1 ∧ (1 : Int) ≤ 1)
  | x :: a, y :: b => lex_bd (cmpB_bd _ _) (cmpKL_bd a b)
theorem cmpH_bd (a b : Vu) : -1 ≤ cmpH a b ∧ cmpH a b ≤ 1 := by
  unfold cmpH
  rw [cmpK_zero]
  exact lex_bd (sgn_bd _ _) (lex_bd (sgn_bd _ _) (lex_bd (sgn_bd _ _) (lex_bd (cmpB_bd _ _) (cmpKL_bd _ _))))
mutual
theorem cmpV_bd : ∀ a b : Vu, -1 ≤ cmpV a b ∧ cmpV a b ≤ 1
  | .mk k b i t l ks, w => by
    rw [cmpV_eq]
    exact lex_bd (cmpH_bd _ _) (cmpL_bd l w.items)
theorem cmpL_bd : ∀ a b : List Vu, -1 ≤ cmpL a b ∧ cmpL a b ≤ 1
  | [], [] => by simp only [cmpL]; omega
  | [], _ :: _ => by simp only [cmpL]; omega
  | _ :: _, [] => by simp only [cmpL]; omega
  | x :: a, y :: b => by
    simp only [cmpL]
    exact lex_bd (cmpV_bd x y) (cmpL_bd a b)
end
theorem hasR_ok2 {v : Vu} {s : ByteArray} (h : itemE v = 0) : itemE (hasR v s) = 0 := by
  unfold hasR
  generalize (if routeOk false s = true then partsR s else []) = l
  induction l generalizing v with
  | nil => exact h
  | cons p l ih => exact ih (next_ok h)
theorem nil_zero : ∀ {v : Vu}, itemE v = 0 → v.kind = 0 → v = .zero
  | .mk k b i t l ks, h, hk => by
    have hk2 : k = 0 := hk
    subst hk2
    have h2 : headI (.mk 0 b i t l ks) = 0 := by
      rw [itemE_eq] at h
      split at h <;> assumption
    rw [headI_P] at h2
    simp only [Vu.kind, Vu.b, Vu.i, Vu.text, Vu.items, Vu.keys, show skind 0 = 0 from rfl] at h2
    unfold headP at h2
    rw [if_neg (by omega)] at h2
    split at h2
    · omega
    · rename_i h3
      have h4 : ¬ b = true := fun e => h3 (.inl ⟨e, by omega⟩)
      have h5 : i = 0 := Classical.byContradiction fun e => h3 (.inr (.inl ⟨e, by omega, by omega⟩))
      have h6 : t = ⟨#[]⟩ := Classical.byContradiction fun e => h3 (.inr (.inr (.inl ⟨e, by omega⟩)))
      have h7 : l = [] := List.eq_nil_of_length_eq_zero (Nat.eq_zero_of_not_pos fun e => h3 (.inr (.inr (.inr (.inl ⟨e, by omega, by omega⟩)))))
      have h8 : ks = [] := List.eq_nil_of_length_eq_zero (Nat.eq_zero_of_not_pos fun e => h3 (.inr (.inr (.inr (.inr (.inl ⟨e, by omega⟩))))))
      rw [h5, h6, h7, h8, Bool.not_eq_true _ |>.mp h4]
      rfl
theorem nil_cmp {x y : Vu} (hx : itemE x = 0) (hy : itemE y = 0) (kx : x.kind = 0) (ky : y.kind = 0) : cmpV x y = 0 := by
  rw [nil_zero hx kx, nil_zero hy ky]
  have := cmpV_anti .zero .zero
  omega
def comesV (d : Bool) (x y : Vu) : Int := if x.kind = 0 ∨ y.kind = 0 then (if x.kind ≠ 0 then -1 else if y.kind ≠ 0 then 1 else 0) else if d = true then -cmpV x y else cmpV x y
theorem Tr.swap {x y z : Int} (h : Tr x y z) : Tr y x z := ⟨fun a b => ⟨(h.1 b a).1, fun c => (h.1 b a).2 c.symm⟩, fun a b => h.2 b a⟩
theorem comesV_anti (d : Bool) (x y : Vu) : comesV d y x = - comesV d x y := by
  have := cmpV_anti x y
  unfold comesV
  by_cases hx : x.kind = 0 <;> by_cases hy : y.kind = 0 <;> cases d <;> simp [hx, hy] <;> omega
theorem comesV_tr (d : Bool) (x y z : Vu) : Tr (comesV d x y) (comesV d y z) (comesV d x z) := by
  have h1 := cmpV_tr x y z
  have h2 := (cmpV_tr z y x).swap
  rw [cmpV_anti x y, cmpV_anti y z, cmpV_anti x z] at h2
  unfold comesV
  by_cases hx : x.kind = 0 <;> by_cases hy : y.kind = 0 <;> by_cases hz : z.kind = 0 <;> cases d <;> simp only [hx, hy, hz, ne_eq, not_true_eq_false, not_false_eq_true, if_true, if_false, or_true, true_or, or_self, Bool.false_eq_true]
  all_goals first
    | exact h1
    | exact h2
    | (unfold Tr; omega)
def keysC : List (ByteArray × Bool) → Vu → Vu → Int
  | [], _, _ => 0
  | k :: r, x, y => if comesV k.2 (hasR x k.1) (hasR y k.1) ≠ 0 then comesV k.2 (hasR x k.1) (hasR y k.1) else keysC r x y
theorem keysC_anti : ∀ (l : List (ByteArray × Bool)) (x y : Vu), keysC l y x = - keysC l x y
  | [], _, _ => rfl
  | k :: r, x, y => anti_lex (comesV_anti _ _ _) (fun _ => keysC_anti r x y)
theorem keysC_tr : ∀ (l : List (ByteArray × Bool)) (x y z : Vu), Tr (keysC l x y) (keysC l y z) (keysC l x z)
  | [], _, _, _ => Tr.n
  | k :: r, x, y, z => Tr.lex (comesV_tr _ _ _ _) (fun _ _ => keysC_tr r x y z)
theorem keysC_drop {ks : List (ByteArray × Bool)} {k : Nat} (h : k < ks.length) (x y : Vu) : keysC (ks.drop k) x y = if comesV (ks.getD k (⟨#[]⟩, false)).2 (hasR x (ks.getD k (⟨#[]⟩, false)).1) (hasR y (ks.getD k (⟨#[]⟩, false)).1) ≠ 0 then comesV (ks.getD k (⟨#[]⟩, false)).2 (hasR x (ks.getD k (⟨#[]⟩, false)).1) (hasR y (ks.getD k (⟨#[]⟩, false)).1) else keysC (ks.drop (k + 1)) x y := by
  have e : ks.getD k (⟨#[]⟩, false) = ks[k] := by simp [List.getD, h]
  rw [e, List.drop_eq_getElem_cons h]
  rfl
theorem keysC_end {ks : List (ByteArray × Bool)} {k : Nat} (h : ks.length ≤ k) (x y : Vu) : keysC (ks.drop k) x y = 0 := by rw [List.drop_of_length_le h]; rfl
def keyI (ks : List (ByteArray × Bool)) (l : List Vu) (i j : Nat) : Int := keysC ks (l.getD i .zero) (l.getD j .zero)
def keyB (ks : List (ByteArray × Bool)) (l : List Vu) (i j : Nat) : Bool := decide (keyI ks l i j < 0)
theorem wk_key (ks : List (ByteArray × Bool)) (l : List Vu) : Wk (keyB ks l) := wk_of (c := keyI ks l) (fun a b => keysC_anti ks _ _) (fun a b d => keysC_tr ks _ _ _)
end sb
end Go.Proofs.YthoemnhigboahaaGreatDoor
namespace Go.Proofs.YthoemnhigboahaaGreatDoor
open Go.RowKit
set_option linter.unusedVariables false
set_option linter.unusedSimpArgs false
namespace sb
def keyF (ks : List (ByteArray × Bool)) (i j : Nat) : DD := match j with
  | 0 => dS (ks.getD i (⟨#[]⟩, false)).1
  | _ => dB (ks.getD i (⟨#[]⟩, false)).2
section
variable (E : Env)
set_option maxRecDepth 100000
set_option maxHeartbeats 4000000 in
theorem comes_sp (d : Bool) (x y : Vu) : Sp (cx Tryz.prog mixed tyT_ok E) 47 [encV x, encV y, dB d] (i64 (comesV d x y)) := by
  have hc := compare_sp E (SizeOf.sizeOf x + 1) x y (by omega)
  obtain ⟨z, hz⟩ : ∃ z, z = cmpV x y := ⟨_, rfl⟩
  have hzb : -1 ≤ z ∧ z ≤ 1 := by rw [hz]; exact cmpV_bd x y
  rw [← hz] at hc
  have hr : comesV d x y = if x.kind = 0 ∨ y.kind = 0 then (if x.kind ≠ 0 then -1 else if y.kind ≠ 0 then 1 else 0) else if d = true then -z else z := by rw [hz]; rfl
  generalize comesV d x y = r at hr ⊢
  refine Sp.body Tryz.func47 (by kernel_rfl) rfl (by kernel_rfl) (by kernel_rfl) (by kernel_rfl) ?_
  cases d
  · repeat' first
      | (refine codeW_cond rfl ?_; first | (refine condW_dec ?_ ?_ <;> intro _ <;> try (exfalso; omega)) | refine condW_not ?_ | (refine condW_bool ?_ ?_ <;> intro _ <;> try (exfalso; omega)))
      | (refine facW_intro ?_; intro _)
      | refine Or.inl ?_
      | ((conv => whnf); first | (refine condW_dec ?_ ?_ <;> intro _) | refine condW_not ?_ | (refine condW_bool ?_ ?_ <;> intro _) | (refine nbC_t (fun _ => ?_) ?_) | (refine nbC_f ?_ (fun _ => ?_)))
      | refine And.intro (by first | omega | (simp only [Int.toNat_natCast] at *; omega) | (simp only [Nat.reduceAdd, Int.cast_ofNat_Int, true_and, and_true]; omega)  | kernel_rfl) ?_
      | refine RegW.run ?_
      | refine ⟨_, hc, ?_⟩
      | fail
    all_goals try (show codeW _ Code.skip _ _; unfold codeW)
    all_goals
      repeat' first
        | (refine codeW_cond rfl ?_; first | (refine condW_dec ?_ ?_ <;> intro _ <;> try (exfalso; omega)) | refine condW_not ?_ | (refine condW_bool ?_ ?_ <;> intro _ <;> try (exfalso; omega)))
        | (refine facW_intro ?_; intro _)
        | refine Or.inl ?_
        | ((conv => whnf); first | (refine condW_dec ?_ ?_ <;> intro _) | refine condW_not ?_ | (refine condW_bool ?_ ?_ <;> intro _) | (refine nbC_t (fun _ => ?_) ?_) | (refine nbC_f ?_ (fun _ => ?_)))
        | refine And.intro (by first | omega | (simp only [Int.toNat_natCast] at *; omega) | (simp only [Nat.reduceAdd, Int.cast_ofNat_Int, true_and, and_true]; omega)  | kernel_rfl) ?_
        | refine RegW.run ?_
        | refine ⟨_, hc, ?_⟩
        | fail
    all_goals first
      | exact Dle.i (by rw [hr]; grind)
      | trace_state
  · repeat' first
      | (refine codeW_cond rfl ?_; first | (refine condW_dec ?_ ?_ <;> intro _ <;> try (exfalso; omega)) | refine condW_not ?_ | (refine condW_bool ?_ ?_ <;> intro _ <;> try (exfalso; omega)))
      | (refine facW_intro ?_; intro _)
      | refine Or.inl ?_
      | ((conv => whnf); first | (refine condW_dec ?_ ?_ <;> intro _) | refine condW_not ?_ | (refine condW_bool ?_ ?_ <;> intro _) | (refine nbC_t (fun _ => ?_) ?_) | (refine nbC_f ?_ (fun _ => ?_)))
      | refine And.intro (by first | omega | (simp only [Int.toNat_natCast] at *; omega) | (simp only [Nat.reduceAdd, Int.cast_ofNat_Int, true_and, and_true]; omega)  | kernel_rfl) ?_
      | refine RegW.run ?_
      | refine ⟨_, hc, ?_⟩
      | fail
    all_goals try (show codeW _ Code.skip _ _; unfold codeW)
    all_goals
      repeat' first
        | (refine codeW_cond rfl ?_; first | (refine condW_dec ?_ ?_ <;> intro _ <;> try (exfalso; omega)) | refine condW_not ?_ | (refine condW_bool ?_ ?_ <;> intro _ <;> try (exfalso; omega)))
        | (refine facW_intro ?_; intro _)
        | refine Or.inl ?_
        | ((conv => whnf); first | (refine condW_dec ?_ ?_ <;> intro _) | refine condW_not ?_ | (refine condW_bool ?_ ?_ <;> intro _) | (refine nbC_t (fun _ => ?_) ?_) | (refine nbC_f ?_ (fun _ => ?_)))
        | refine And.intro (by first | omega | (simp only [Int.toNat_natCast] at *; omega) | (simp only [Nat.reduceAdd, Int.cast_ofNat_Int, true_and, and_true]; omega)  | kernel_rfl) ?_
        | refine RegW.run ?_
        | refine ⟨_, hc, ?_⟩
        | fail
    all_goals first
      | exact Dle.i (by rw [hr]; grind)
      | trace_state
end
end sb
namespace sc
open sb
section
variable (E : Env)
set_option maxRecDepth 100000
set_option maxHeartbeats 8000000 in
theorem keyed_c (hML : ∀ w, E.G w → ML w) (n : Nat) (ks : List (ByteArray × Bool)) (vl : List Vu) (hn : n = vl.length) (hv : ∀ v ∈ vl, itemE v = 0) (hks : ks.length ≤ 1000) (hsz : ∀ k ∈ ks, k.1.size ≤ 1000000000) (hvl : vl.length ≤ 1000000000) :
    CmpC E n 2 24 ks.length (keyF ks) vl 51 (keyI ks vl) := by
  intro x y hx hy
  have hvg : ∀ i, itemE (vl.getD i .zero) = 0 := fun i => by
    by_cases hi : i < vl.length
    · exact hv _ (getD_mem vl .zero i hi)
    · rw [List.getD, List.getElem?_eq_none (by omega)]; exact item_zero
  have hkg : ∀ i, (ks.getD i (⟨#[]⟩, false)).1.size ≤ 1000000000 := fun i => by
    by_cases hi : i < ks.length
    · exact hsz _ (getD_mem ks _ i hi)
    · rw [List.getD, List.getElem?_eq_none (by omega)]; exact Nat.zero_le _
  obtain ⟨r, hr⟩ : ∃ r, r = keyI ks vl x y := ⟨_, rfl⟩
  rw [← hr]
  unfold keyI at hr
  refine SpH.body Tryz.func51 (by kernel_rfl) rfl (by kernel_rfl) (by kernel_rfl) (by kernel_rfl) ?_
  repeat' first
    | (refine codeW_cond rfl ?_; first | (refine condW_dec ?_ ?_ <;> intro _ <;> try (exfalso; omega)) | refine condW_not ?_ | (refine condW_bool ?_ ?_ <;> intro _ <;> try (exfalso; omega)))
    | (refine facW_intro ?_; intro _)
    | refine Or.inl ?_
    | ((conv => whnf); first | (refine condW_dec ?_ ?_ <;> intro _ <;> try (exfalso; omega)) | refine condW_not ?_ | (refine condW_bool ?_ ?_ <;> intro _ <;> try (exfalso; omega)) | (refine nbC_t (fun _ => ?_) ?_) | (refine nbC_f ?_ (fun _ => ?_)))
    | refine And.intro (by first | omega | (simp only [Int.toNat_natCast] at *; omega) | (simp only [Nat.reduceAdd, Int.cast_ofNat_Int, true_and, and_true]; omega)  | kernel_rfl) ?_
    | refine RegW.run ?_
    | fail
  refine ⟨Nat, fun k => [(14, i64 k)], fun k => [], [2001, 2002], fun k => [], fun k => k ≤ ks.length ∧ r = keysC (ks.drop k) (vl.getD x .zero) (vl.getD y .zero), fun k => ks.length - k, ⟨0, ⟨by omega, hr⟩, ⟨[], ⟨by kernel_rfl, by kernel_rfl, by kernel_rfl, by kernel_rfl, by kernel_rfl, by kernel_rfl, by kernel_rfl⟩, (by repeat' first | exact trivial | exact rfl | kernel_rfl | exact Dle.of_eq rfl | exact MLe.of_eq rfl | exact Dle.i (by omega) | exact Dle.i (by simp only [Int.toNat_natCast] at *; omega) | exact Dle.nil | exact Dle.rc Dle.nil | exact Option.some_ne_none _ | exact Or.inl rfl | exact Or.inr trivial | omega | (simp only [Int.toNat_natCast] at *; omega) | (intro _ _ _ _; exact Dle.of_eq rfl) | refine And.intro ?_ ?_)⟩⟩, fun k hk => ?_⟩
  obtain ⟨q1, q2⟩ := hk
  by_cases hlt : k < ks.length
  · rw [keysC_drop hlt] at q2
    have c1 := hasAt_sp E hML (vl.getD x .zero) (ks.getD k (⟨#[]⟩, false)).1 (hvg x) (hkg k)
    have c2 := hasAt_sp E hML (vl.getD y .zero) (ks.getD k (⟨#[]⟩, false)).1 (hvg y) (hkg k)
    have i1 := hasR_ok2 (s := (ks.getD k (⟨#[]⟩, false)).1) (hvg x)
    have i2 := hasR_ok2 (s := (ks.getD k (⟨#[]⟩, false)).1) (hvg y)
    generalize hasR (vl.getD x .zero) (ks.getD k (⟨#[]⟩, false)).1 = X at c1 q2 i1
    generalize hasR (vl.getD y .zero) (ks.getD k (⟨#[]⟩, false)).1 = Y at c2 q2 i2
    have c3 := compareOf_sp E (SizeOf.sizeOf X + 1) X Y (Nat.lt_succ_self _)
    have hzb := cmpV_bd X Y
    have hnil : X.kind = 0 → Y.kind = 0 → cmpV X Y = 0 := nil_cmp i1 i2
    unfold comesV at q2
    generalize cmpV X Y = z at c3 q2 hzb hnil
    repeat' first
      | (refine codeW_cond rfl ?_; first | (refine condW_dec ?_ ?_ <;> intro _ <;> try (exfalso; omega)) | refine condW_not ?_ | (refine condW_bool ?_ ?_ <;> intro _ <;> try (exfalso; omega)))
      | (refine facW_intro ?_; intro _)
      | refine Or.inl ?_
      | ((conv => whnf); first | (refine condW_dec ?_ ?_ <;> intro _ <;> try (exfalso; omega)) | refine condW_not ?_ | (refine condW_bool ?_ ?_ <;> intro _ <;> try (exfalso; omega)) | (refine nbC_t (fun _ => ?_) ?_) | (refine nbC_f ?_ (fun _ => ?_)))
      | refine And.intro (by first | omega | (simp only [Int.toNat_natCast] at *; omega) | (simp only [Nat.reduceAdd, Int.cast_ofNat_Int, true_and, and_true]; omega)  | kernel_rfl) ?_
      | refine RegW.run ?_
      | refine ⟨_, c1, ?_⟩
      | refine ⟨_, c2, ?_⟩
      | refine ⟨_, c3, ?_⟩
      | fail
    all_goals first
      | (exfalso; omega)
      | exact ⟨k + 1, ⟨by omega, by grind⟩, ⟨[], ⟨by kernel_rfl, by kernel_rfl, by kernel_rfl, by kernel_rfl, by kernel_rfl, by kernel_rfl, by kernel_rfl⟩, (by repeat' first | exact trivial | exact rfl | kernel_rfl | exact Dle.of_eq rfl | exact MLe.of_eq rfl | exact Dle.i (by omega) | exact Dle.i (by simp only [Int.toNat_natCast] at *; omega) | exact Dle.nil | exact Dle.rc Dle.nil | exact Option.some_ne_none _ | exact Or.inl rfl | exact Or.inr trivial | omega | (simp only [Int.toNat_natCast] at *; omega) | (intro _ _ _ _; exact Dle.of_eq rfl) | refine And.intro ?_ ?_)⟩, by first | omega | (dsimp only; omega)⟩
      | exact ⟨[(2001, .cells [.sl 2 24 ks.length (keyF ks)]), (2002, .cells [.rc (.vals vl)])], [], rfl, ⟨[], ⟨by kernel_rfl, by kernel_rfl, by kernel_rfl, by kernel_rfl, by kernel_rfl, by kernel_rfl, by kernel_rfl⟩, (by repeat' first | (exact Dle.i (by grind)) | exact trivial | exact rfl | kernel_rfl | exact Dle.of_eq rfl | exact MLe.of_eq rfl | exact Dle.i (by omega) | exact Dle.i (by simp only [Int.toNat_natCast] at *; omega) | exact Dle.nil | exact Dle.rc Dle.nil | exact Option.some_ne_none _ | exact Or.inl rfl | exact Or.inr trivial | omega | (simp only [Int.toNat_natCast] at *; omega) | (intro _ _ _ _; exact Dle.of_eq rfl) | refine And.intro ?_ ?_)⟩, rfl⟩
      | trace_state
  · rw [keysC_end (by omega)] at q2
    repeat' first
      | (refine codeW_cond rfl ?_; first | (refine condW_dec ?_ ?_ <;> intro _ <;> try (exfalso; omega)) | refine condW_not ?_ | (refine condW_bool ?_ ?_ <;> intro _ <;> try (exfalso; omega)))
      | (refine facW_intro ?_; intro _)
      | refine Or.inl ?_
      | ((conv => whnf); first | (refine condW_dec ?_ ?_ <;> intro _ <;> try (exfalso; omega)) | refine condW_not ?_ | (refine condW_bool ?_ ?_ <;> intro _ <;> try (exfalso; omega)) | (refine nbC_t (fun _ => ?_) ?_) | (refine nbC_f ?_ (fun _ => ?_)))
      | refine And.intro (by first | omega | (simp only [Int.toNat_natCast] at *; omega) | (simp only [Nat.reduceAdd, Int.cast_ofNat_Int, true_and, and_true]; omega)  | kernel_rfl) ?_
      | refine RegW.run ?_
      | fail
    all_goals first
      | (exfalso; omega)
      | exact ⟨[(2001, .cells [.sl 2 24 ks.length (keyF ks)]), (2002, .cells [.rc (.vals vl)])], [], rfl, ⟨[], ⟨by kernel_rfl, by kernel_rfl, by kernel_rfl, by kernel_rfl, by kernel_rfl, by kernel_rfl, by kernel_rfl⟩, (by repeat' first | (exact Dle.i (by omega)) | exact trivial | exact rfl | kernel_rfl | exact Dle.of_eq rfl | exact MLe.of_eq rfl | exact Dle.i (by omega) | exact Dle.i (by simp only [Int.toNat_natCast] at *; omega) | exact Dle.nil | exact Dle.rc Dle.nil | exact Option.some_ne_none _ | exact Or.inl rfl | exact Or.inr trivial | omega | (simp only [Int.toNat_natCast] at *; omega) | (intro _ _ _ _; exact Dle.of_eq rfl) | refine And.intro ?_ ?_)⟩, rfl⟩
      | trace_state
end
end sc
end Go.Proofs.YthoemnhigboahaaGreatDoor
