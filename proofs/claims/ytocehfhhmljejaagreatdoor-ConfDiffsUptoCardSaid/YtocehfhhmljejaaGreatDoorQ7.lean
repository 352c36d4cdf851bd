/-
  The reference's ValuesOf, LevelsOf, eachValue, ConfCheck.
-/
import Derived.Test.YtocehfhhmljejaaGreatDoorQ6
import Derived.Test.YtocehfhhmljejaaGreatDoorQ4
namespace Go.Proofs.YtocehfhhmljejaaGreatDoor
open Go.RowKit
set_option linter.unusedVariables false
set_option linter.unusedSimpArgs false
def unused5 (v : Vu) : Prop :=
  (v.b = true ∧ v.kind ≠ 1) ∨ (v.i ≠ 0 ∧ v.kind ≠ 2 ∧ v.kind ≠ 4) ∨ (v.text ≠ ⟨#[]⟩ ∧ v.kind ≠ 3) ∨ (0 < v.items.length ∧ v.kind ≠ 5 ∧ v.kind ≠ 6) ∨ (0 < v.keys.length ∧ v.kind ≠ 6)
instance (v : Vu) : Decidable (unused5 v) := by unfold unused5; infer_instance
def un1 (v : Vu) : Prop := v.b = true ∧ v.kind ≠ 1
instance (v : Vu) : Decidable (un1 v) := by unfold un1; infer_instance
def un2 (v : Vu) : Prop := un1 v ∨ (v.i ≠ 0 ∧ v.kind ≠ 2 ∧ v.kind ≠ 4)
instance (v : Vu) : Decidable (un2 v) := by unfold un2; infer_instance
def un3 (v : Vu) : Prop := un2 v ∨ (v.text ≠ ⟨#[]⟩ ∧ v.kind ≠ 3)
instance (v : Vu) : Decidable (un3 v) := by unfold un3; infer_instance
def un4 (v : Vu) : Prop := un3 v ∨ (0 < v.items.length ∧ v.kind ≠ 5 ∧ v.kind ≠ 6)
instance (v : Vu) : Decidable (un4 v) := by unfold un4; infer_instance
def unused6 (v : Vu) : Prop := v.kind = 6 ∧ v.keys.length ≠ v.items.length
instance (v : Vu) : Decidable (unused6 v) := by unfold unused6; infer_instance
theorem unused_iff (v : Vu) : unusedP v ↔ unused5 v ∨ unused6 v := by unfold unusedP unused5 unused6; grind
def dayP (v : Vu) : Prop := v.kind = 4 ∧ badDayP v.i
instance (v : Vu) : Decidable (dayP v) := by unfold dayP; infer_instance
section
variable (E : Env)
set_option maxRecDepth 100000
theorem valuesOf_sp : ∀ (N : Nat) (v : Vu), SizeOf.sizeOf v < N → cnt v ≤ 4611686018427387904 → Sp (cx Tryz.prog mixed tyT_ok E) 36 [encV v] (i64 (cnt v))
  | 0, v, h, _ => by omega
  | N + 1, v, h, hb => by
    have ih := fun x (hx : x ∈ v.items) => valuesOf_sp N x (by have := items_lt v x hx; omega) (by have := cnt_mem v.items x hx; rw [cnt_eq] at hb; omega)
    rw [cnt_eq] at hb ⊢
    refine Sp.body Tryz.func36 (by kernel_rfl) rfl (by kernel_rfl) (by kernel_rfl) (by kernel_rfl) ?_
    refine fun hlen => ?_
    refine ⟨Nat, fun k => [(3, i64 (cntL (v.items.take k) + 1 : Nat)), (9, i64 k)], fun k => [], [], fun k => [], fun k => k ≤ v.items.length, fun k => v.items.length - k, ⟨0, by omega, ⟨[], ⟨by kernel_rfl, by kernel_rfl, by kernel_rfl, by kernel_rfl, by kernel_rfl, by kernel_rfl, by kernel_rfl⟩, (by repeat' first | exact trivial | exact rfl | kernel_rfl | exact Dle.of_eq rfl | exact MLe.of_eq rfl | exact Dle.i (by omega) | exact Dle.i (by simp only [Int.toNat_natCast] at *; omega) | exact Dle.nil | exact Dle.rc Dle.nil | exact Option.some_ne_none _ | exact Or.inl rfl | exact Or.inr trivial | omega | (simp only [Int.toNat_natCast] at *; omega) | (intro _ _ _ _; exact Dle.of_eq rfl) | refine And.intro ?_ ?_)⟩⟩, fun k hk => ?_⟩
    refine Or.inl ?_
    refine condW_dec ?_ ?_
    · intro hlt
      have hlt : k < v.items.length := by omega
      have h1 := cntL_take v.items k
      have h2 := cntL_take v.items (k + 1)
      rw [take_snoc v.items .zero k hlt, cntL_app] at h2
      repeat' first
        | (refine facW_intro ?_; intro _)
        | refine Or.inl ?_
        | ((conv => whnf); first | (refine condW_dec ?_ ?_ <;> intro _) | refine condW_not ?_ | (refine condW_bool ?_ ?_ <;> intro _) | (refine nbC_t (fun _ => ?_) ?_) | (refine nbC_f ?_ (fun _ => ?_)))
        | refine And.intro (by first | omega | (simp only [Int.toNat_natCast] at *; omega) | (simp only [Nat.reduceAdd, Int.cast_ofNat_Int, true_and, and_true]; omega)  | kernel_rfl) ?_
        | refine RegW.run ?_
        | refine ⟨_, ih _ (getD_mem v.items .zero k hlt), ?_⟩
        | fail
      have e1 : cntL (v.items.take (k + 1)) = cntL (v.items.take k) + cnt (v.items.getD k .zero) := by rw [take_snoc v.items .zero k hlt, cntL_app]
      exact ⟨k + 1, hlt, ⟨[], ⟨by kernel_rfl, by kernel_rfl, by kernel_rfl, by kernel_rfl, by kernel_rfl, by kernel_rfl, by kernel_rfl⟩, (by repeat' first | exact trivial | exact rfl | kernel_rfl | exact Dle.of_eq rfl | exact MLe.of_eq rfl | exact Dle.i (by omega) | exact Dle.i (by simp only [Int.toNat_natCast] at *; omega) | exact Dle.nil | exact Dle.rc Dle.nil | exact Option.some_ne_none _ | exact Or.inl rfl | exact Or.inr trivial | omega | (simp only [Int.toNat_natCast] at *; omega) | (intro _ _ _ _; exact Dle.of_eq rfl) | refine And.intro ?_ ?_)⟩, by first | omega | (dsimp only; omega)⟩
    · intro hge
      have : k = v.items.length := by omega
      subst this
      have e : v.items.take v.items.length = v.items := List.take_length
      exact Dle.i (by rw [e])
theorem levelsOf_sp : ∀ (N : Nat) (v : Vu), SizeOf.sizeOf v < N → lvl v ≤ 4611686018427387904 → Sp (cx Tryz.prog mixed tyT_ok E) 37 [encV v] (i64 (lvl v))
  | 0, v, h, _ => by omega
  | N + 1, v, h, hb => by
    have ih := fun x (hx : x ∈ v.items) => levelsOf_sp N x (by have := items_lt v x hx; omega) (by have := lvl_mem v.items x hx; rw [lvl_eq] at hb; omega)
    rw [lvl_eq] at hb ⊢
    refine Sp.body Tryz.func37 (by kernel_rfl) rfl (by kernel_rfl) (by kernel_rfl) (by kernel_rfl) ?_
    refine fun hlen => ?_
    refine ⟨Nat, fun k => [(3, i64 (lvlL (v.items.take k))), (9, i64 k)], fun k => [], [], fun k => [], fun k => k ≤ v.items.length, fun k => v.items.length - k, ⟨0, by omega, ⟨[], ⟨by kernel_rfl, by kernel_rfl, by kernel_rfl, by kernel_rfl, by kernel_rfl, by kernel_rfl, by kernel_rfl⟩, (by repeat' first | exact trivial | exact rfl | kernel_rfl | exact Dle.of_eq rfl | exact MLe.of_eq rfl | exact Dle.i (by omega) | exact Dle.i (by simp only [Int.toNat_natCast] at *; omega) | exact Dle.nil | exact Dle.rc Dle.nil | exact Option.some_ne_none _ | exact Or.inl rfl | exact Or.inr trivial | omega | (simp only [Int.toNat_natCast] at *; omega) | (intro _ _ _ _; exact Dle.of_eq rfl) | refine And.intro ?_ ?_)⟩⟩, fun k hk => ?_⟩
    refine Or.inl ?_
    refine condW_dec ?_ ?_
    · intro hlt
      have hlt : k < v.items.length := by omega
      refine ⟨by omega, ?_⟩
      refine Or.inl (Or.inl ⟨_, ih _ (getD_mem v.items .zero k hlt), ?_⟩)
      refine ⟨by omega, ?_⟩
      have e1 : lvlL (v.items.take (k + 1)) = max (lvlL (v.items.take k)) (lvl (v.items.getD k .zero)) := by rw [take_snoc v.items .zero k hlt, lvlL_app]
      exact ⟨k + 1, hlt, ⟨[], ⟨by kernel_rfl, by kernel_rfl, by kernel_rfl, by kernel_rfl, by kernel_rfl, by kernel_rfl, by kernel_rfl⟩, (by repeat' first | exact trivial | exact rfl | kernel_rfl | exact Dle.of_eq rfl | exact MLe.of_eq rfl | exact Dle.i (by omega) | exact Dle.i (by simp only [Int.toNat_natCast] at *; omega) | exact Dle.nil | exact Dle.rc Dle.nil | exact Option.some_ne_none _ | exact Or.inl rfl | exact Or.inr trivial | omega | (simp only [Int.toNat_natCast] at *; omega) | (intro _ _ _ _; exact Dle.of_eq rfl) | refine And.intro ?_ ?_)⟩, by first | omega | (dsimp only; omega)⟩
    · intro hge
      have : k = v.items.length := by omega
      subst this
      have e : v.items.take v.items.length = v.items := List.take_length
      refine ⟨by rw [e]; omega, ?_⟩
      exact Dle.i (by rw [e]; omega)
set_option maxHeartbeats 2000000 in
theorem eachValue_sp : ∀ (N : Nat) (v : Vu), SizeOf.sizeOf v < N → Sp (cx Tryz.prog mixed tyT_ok E) 38 [encV v] (i64 (faultE v))
  | 0, v, h => by omega
  | N + 1, v, h => by
    have ih := fun x (hx : x ∈ v.items) => eachValue_sp N x (by have := items_lt v x hx; omega)
    refine Sp.body Tryz.func38 (by kernel_rfl) rfl (by kernel_rfl) (by kernel_rfl) (by kernel_rfl) ?_
    refine condW_dec ?_ ?_ <;> intro h0
    · repeat' first
        | (refine facW_intro ?_; intro _)
        | refine Or.inl ?_
        | ((conv => whnf); first | (refine condW_dec ?_ ?_ <;> intro _) | refine condW_not ?_ | (refine condW_bool ?_ ?_ <;> intro _) | (refine nbC_t (fun _ => ?_) ?_) | (refine nbC_f ?_ (fun _ => ?_)))
        | refine And.intro (by first | omega | (simp only [Int.toNat_natCast] at *; omega) | (simp only [Nat.reduceAdd, Int.cast_ofNat_Int, true_and, and_true]; omega)  | kernel_rfl) ?_
        | refine RegW.run ?_
        | fail
      exact Dle.i (by rw [faultE_eq, show headE v = 10 by unfold headE; grind]; rfl)
    refine condW_dec ?_ ?_ <;> intro h1
    · repeat' first
        | (refine facW_intro ?_; intro _)
        | refine Or.inl ?_
        | ((conv => whnf); first | (refine condW_dec ?_ ?_ <;> intro _) | refine condW_not ?_ | (refine condW_bool ?_ ?_ <;> intro _) | (refine nbC_t (fun _ => ?_) ?_) | (refine nbC_f ?_ (fun _ => ?_)))
        | refine And.intro (by first | omega | (simp only [Int.toNat_natCast] at *; omega) | (simp only [Nat.reduceAdd, Int.cast_ofNat_Int, true_and, and_true]; omega)  | kernel_rfl) ?_
        | refine RegW.run ?_
        | fail
      exact Dle.i (by rw [faultE_eq, show headE v = 10 by unfold headE; grind]; rfl)
    refine Or.inr ?_
    refine ⟨Unit, fun z => [(68, dB (decide (unused5 v)))], fun z => [], [1], fun z => [], fun z => True, ?_, fun z hz => ?_⟩
    · refine RegW.cut 7 (ι := Unit) (fun z => [(23, dB (decide (un1 v)))]) (fun z => []) [1] (fun z => []) (fun z => True) ?_ (fun z hz => ?_)
      · repeat' first
          | (refine facW_intro ?_; intro _)
          | refine Or.inl ?_
          | ((conv => whnf); first | (refine condW_dec ?_ ?_ <;> intro _ <;> try (exfalso; omega)) | refine condW_not ?_ | (refine condW_bool ?_ ?_ <;> intro _ <;> try (exfalso; omega)) | (refine nbC_t (fun _ => ?_) ?_) | (refine nbC_f ?_ (fun _ => ?_)))
          | refine And.intro (by first | omega | (simp only [Int.toNat_natCast] at *; omega) | (simp only [Nat.reduceAdd, Int.cast_ofNat_Int, true_and, and_true]; omega)  | kernel_rfl) ?_
          | refine RegW.run ?_
          | fail
        all_goals exact ⟨(), trivial, [], ⟨by kernel_rfl, by kernel_rfl, by kernel_rfl, by kernel_rfl, by kernel_rfl, by kernel_rfl, by kernel_rfl⟩, ⟨⟨rfl, Dle.bo (by unfold un1; grind)⟩, trivial⟩, trivial, ⟨rfl, Option.some_ne_none _, trivial⟩, trivial⟩
      refine RegW.cut 13 (ι := Unit) (fun z => [(36, dB (decide (un2 v)))]) (fun z => []) [1] (fun z => []) (fun z => True) ?_ (fun z hz => ?_)
      · repeat' first
          | (refine facW_intro ?_; intro _)
          | refine Or.inl ?_
          | ((conv => whnf); first | (refine condW_dec ?_ ?_ <;> intro _ <;> try (exfalso; omega)) | refine condW_not ?_ | (refine condW_bool ?_ ?_ <;> intro _ <;> try (exfalso; omega)) | (refine nbC_t (fun _ => ?_) ?_) | (refine nbC_f ?_ (fun _ => ?_)))
          | refine And.intro (by first | omega | (simp only [Int.toNat_natCast] at *; omega) | (simp only [Nat.reduceAdd, Int.cast_ofNat_Int, true_and, and_true]; omega)  | kernel_rfl) ?_
          | refine RegW.run ?_
          | fail
        all_goals exact ⟨(), trivial, [], ⟨by kernel_rfl, by kernel_rfl, by kernel_rfl, by kernel_rfl, by kernel_rfl, by kernel_rfl, by kernel_rfl⟩, ⟨⟨rfl, Dle.bo (by unfold un2; grind)⟩, trivial⟩, trivial, ⟨rfl, Option.some_ne_none _, trivial⟩, trivial⟩
      refine RegW.cut 9 (ι := Unit) (fun z => [(45, dB (decide (un3 v)))]) (fun z => []) [1] (fun z => []) (fun z => True) ?_ (fun z hz => ?_)
      · repeat' first
          | (refine facW_intro ?_; intro _)
          | refine Or.inl ?_
          | ((conv => whnf); first | (refine condW_dec ?_ ?_ <;> intro _ <;> try (exfalso; omega)) | refine condW_not ?_ | (refine condW_bool ?_ ?_ <;> intro _ <;> try (exfalso; omega)) | (refine nbC_t (fun _ => ?_) ?_) | (refine nbC_f ?_ (fun _ => ?_)))
          | refine And.intro (by first | omega | (simp only [Int.toNat_natCast] at *; omega) | (simp only [Nat.reduceAdd, Int.cast_ofNat_Int, true_and, and_true]; omega)  | kernel_rfl) ?_
          | refine RegW.run ?_
          | fail
        all_goals exact ⟨(), trivial, [], ⟨by kernel_rfl, by kernel_rfl, by kernel_rfl, by kernel_rfl, by kernel_rfl, by kernel_rfl, by kernel_rfl⟩, ⟨⟨rfl, Dle.bo (by unfold un3; grind)⟩, trivial⟩, trivial, ⟨rfl, Option.some_ne_none _, trivial⟩, trivial⟩
      refine RegW.cut 14 (ι := Unit) (fun z => [(59, dB (decide (un4 v)))]) (fun z => []) [1] (fun z => []) (fun z => True) ?_ (fun z hz => ?_)
      · repeat' first
          | (refine facW_intro ?_; intro _)
          | refine Or.inl ?_
          | ((conv => whnf); first | (refine condW_dec ?_ ?_ <;> intro _ <;> try (exfalso; omega)) | refine condW_not ?_ | (refine condW_bool ?_ ?_ <;> intro _ <;> try (exfalso; omega)) | (refine nbC_t (fun _ => ?_) ?_) | (refine nbC_f ?_ (fun _ => ?_)))
          | refine And.intro (by first | omega | (simp only [Int.toNat_natCast] at *; omega) | (simp only [Nat.reduceAdd, Int.cast_ofNat_Int, true_and, and_true]; omega)  | kernel_rfl) ?_
          | refine RegW.run ?_
          | fail
        all_goals exact ⟨(), trivial, [], ⟨by kernel_rfl, by kernel_rfl, by kernel_rfl, by kernel_rfl, by kernel_rfl, by kernel_rfl, by kernel_rfl⟩, ⟨⟨rfl, Dle.bo (by unfold un4; grind)⟩, trivial⟩, trivial, ⟨rfl, Option.some_ne_none _, trivial⟩, trivial⟩
      refine RegW.run ?_
      repeat' first
        | (refine facW_intro ?_; intro _)
        | refine Or.inl ?_
        | ((conv => whnf); first | (refine condW_dec ?_ ?_ <;> intro _ <;> try (exfalso; omega)) | refine condW_not ?_ | (refine condW_bool ?_ ?_ <;> intro _ <;> try (exfalso; omega)) | (refine nbC_t (fun _ => ?_) ?_) | (refine nbC_f ?_ (fun _ => ?_)))
        | refine And.intro (by first | omega | (simp only [Int.toNat_natCast] at *; omega) | (simp only [Nat.reduceAdd, Int.cast_ofNat_Int, true_and, and_true]; omega)  | kernel_rfl) ?_
        | refine RegW.run ?_
        | fail
      all_goals exact ⟨(), trivial, [], ⟨by kernel_rfl, by kernel_rfl, by kernel_rfl, by kernel_rfl, by kernel_rfl, by kernel_rfl, by kernel_rfl⟩, ⟨⟨rfl, Dle.bo (by unfold unused5; unfold un4 un3 un2 un1 at *; grind)⟩, trivial⟩, trivial, ⟨rfl, Option.some_ne_none _, trivial⟩, trivial⟩
    refine condW_dec ?_ ?_ <;> intro h2
    · repeat' first
        | (refine facW_intro ?_; intro _)
        | refine Or.inl ?_
        | ((conv => whnf); first | (refine condW_dec ?_ ?_ <;> intro _) | refine condW_not ?_ | (refine condW_bool ?_ ?_ <;> intro _) | (refine nbC_t (fun _ => ?_) ?_) | (refine nbC_f ?_ (fun _ => ?_)))
        | refine And.intro (by first | omega | (simp only [Int.toNat_natCast] at *; omega) | (simp only [Nat.reduceAdd, Int.cast_ofNat_Int, true_and, and_true]; omega)  | kernel_rfl) ?_
        | refine RegW.run ?_
        | fail
      exact Dle.i (by rw [faultE_eq, show headE v = 1 by have := (unused_iff v).2 (.inl h2); unfold headE; grind]; rfl)
    refine Or.inr ?_
    refine ⟨Unit, fun z => [(79, dB (decide (unused6 v)))], fun z => [], [1], fun z => [], fun z => True, ?_, fun z hz => ?_⟩
    · repeat' first
        | (refine facW_intro ?_; intro _)
        | refine Or.inl ?_
        | ((conv => whnf); first | (refine condW_dec ?_ ?_ <;> intro _ <;> try (exfalso; omega)) | refine condW_not ?_ | (refine condW_bool ?_ ?_ <;> intro _ <;> try (exfalso; omega)) | (refine nbC_t (fun _ => ?_) ?_) | (refine nbC_f ?_ (fun _ => ?_)))
        | refine And.intro (by first | omega | (simp only [Int.toNat_natCast] at *; omega) | (simp only [Nat.reduceAdd, Int.cast_ofNat_Int, true_and, and_true]; omega)  | kernel_rfl) ?_
        | refine RegW.run ?_
        | fail
      all_goals exact ⟨(), trivial, [], ⟨by kernel_rfl, by kernel_rfl, by kernel_rfl, by kernel_rfl, by kernel_rfl, by kernel_rfl, by kernel_rfl⟩, ⟨⟨rfl, Dle.bo (by unfold unused6; grind)⟩, trivial⟩, trivial, ⟨rfl, Option.some_ne_none _, trivial⟩, trivial⟩
    refine condW_dec ?_ ?_ <;> intro h3
    · repeat' first
        | (refine facW_intro ?_; intro _)
        | refine Or.inl ?_
        | ((conv => whnf); first | (refine condW_dec ?_ ?_ <;> intro _) | refine condW_not ?_ | (refine condW_bool ?_ ?_ <;> intro _) | (refine nbC_t (fun _ => ?_) ?_) | (refine nbC_f ?_ (fun _ => ?_)))
        | refine And.intro (by first | omega | (simp only [Int.toNat_natCast] at *; omega) | (simp only [Nat.reduceAdd, Int.cast_ofNat_Int, true_and, and_true]; omega)  | kernel_rfl) ?_
        | refine RegW.run ?_
        | fail
      exact Dle.i (by rw [faultE_eq, show headE v = 1 by have := (unused_iff v).2 (.inr h3); unfold headE; grind]; rfl)
    refine Or.inr ?_
    refine ⟨Unit, fun z => [(91, dB (decide (dayP v)))], fun z => [], [1], fun z => [], fun z => True, ?_, fun z hz => ?_⟩
    · repeat' first
        | (refine facW_intro ?_; intro _)
        | refine Or.inl ?_
        | ((conv => whnf); first | (refine condW_dec ?_ ?_ <;> intro _ <;> try (exfalso; omega)) | refine condW_not ?_ | (refine condW_bool ?_ ?_ <;> intro _ <;> try (exfalso; omega)) | (refine nbC_t (fun _ => ?_) ?_) | (refine nbC_f ?_ (fun _ => ?_)))
        | refine And.intro (by first | omega | (simp only [Int.toNat_natCast] at *; omega) | (simp only [Nat.reduceAdd, Int.cast_ofNat_Int, true_and, and_true]; omega)  | kernel_rfl) ?_
        | refine RegW.run ?_
        | fail
      all_goals exact ⟨(), trivial, [], ⟨by kernel_rfl, by kernel_rfl, by kernel_rfl, by kernel_rfl, by kernel_rfl, by kernel_rfl, by kernel_rfl⟩, ⟨⟨rfl, Dle.bo (by unfold dayP badDayP; grind)⟩, trivial⟩, trivial, ⟨rfl, Option.some_ne_none _, trivial⟩, trivial⟩
    refine condW_dec ?_ ?_ <;> intro h4
    · repeat' first
        | (refine facW_intro ?_; intro _)
        | refine Or.inl ?_
        | ((conv => whnf); first | (refine condW_dec ?_ ?_ <;> intro _) | refine condW_not ?_ | (refine condW_bool ?_ ?_ <;> intro _) | (refine nbC_t (fun _ => ?_) ?_) | (refine nbC_f ?_ (fun _ => ?_)))
        | refine And.intro (by first | omega | (simp only [Int.toNat_natCast] at *; omega) | (simp only [Nat.reduceAdd, Int.cast_ofNat_Int, true_and, and_true]; omega)  | kernel_rfl) ?_
        | refine RegW.run ?_
        | fail
      exact Dle.i (by rw [faultE_eq, show headE v = 2 by have := unused_iff v; unfold dayP at h4; unfold headE; grind]; rfl)
    repeat' first
      | (refine facW_intro ?_; intro _)
      | refine Or.inl ?_
      | ((conv => whnf); first | (refine condW_dec ?_ ?_ <;> intro _) | refine condW_not ?_ | (refine condW_bool ?_ ?_ <;> intro _) | (refine nbC_t (fun _ => ?_) ?_) | (refine nbC_f ?_ (fun _ => ?_)))
      | refine And.intro (by first | omega | (simp only [Int.toNat_natCast] at *; omega) | (simp only [Nat.reduceAdd, Int.cast_ofNat_Int, true_and, and_true]; omega)  | kernel_rfl) ?_
      | refine RegW.run ?_
      | refine ⟨_, refBadByte_sp E _, ?_⟩
      | fail
    · exact Dle.i (by rw [faultE_eq, show headE v = 4 by have := unused_iff v; unfold dayP at h4; unfold headE; grind]; rfl)
    · exact Dle.i (by rw [faultE_eq, show headE v = 9 by have := unused_iff v; unfold dayP at h4; unfold headE; grind]; rfl)
    have hR : headE v = keysFrom v.keys 0 := by have := unused_iff v; unfold dayP at h4; unfold headE; grind
    refine ⟨Nat, fun k => [(102, i64 k)], fun k => [], [1], fun k => [], fun k => k ≤ v.keys.length ∧ headE v = keysFrom v.keys k, fun k => v.keys.length - k, ⟨0, ⟨by omega, hR⟩, ⟨[], ⟨by kernel_rfl, by kernel_rfl, by kernel_rfl, by kernel_rfl, by kernel_rfl, by kernel_rfl, by kernel_rfl⟩, (by repeat' first | exact trivial | exact rfl | kernel_rfl | exact Dle.of_eq rfl | exact MLe.of_eq rfl | exact Dle.i (by omega) | exact Dle.i (by simp only [Int.toNat_natCast] at *; omega) | exact Dle.nil | exact Dle.rc Dle.nil | exact Option.some_ne_none _ | exact Or.inl rfl | exact Or.inr trivial | omega | (simp only [Int.toNat_natCast] at *; omega) | (intro _ _ _ _; exact Dle.of_eq rfl) | refine And.intro ?_ ?_)⟩⟩, fun k hk => ?_⟩
    obtain ⟨hk, hK⟩ := hk
    repeat' first
      | (refine facW_intro ?_; intro _)
      | refine Or.inl ?_
      | ((conv => whnf); first | (refine condW_dec ?_ ?_ <;> intro _) | refine condW_not ?_ | (refine condW_bool ?_ ?_ <;> intro _) | (refine nbC_t (fun _ => ?_) ?_) | (refine nbC_f ?_ (fun _ => ?_)))
      | refine And.intro (by first | omega | (simp only [Int.toNat_natCast] at *; omega) | (simp only [Nat.reduceAdd, Int.cast_ofNat_Int, true_and, and_true]; omega)  | kernel_rfl) ?_
      | refine RegW.run ?_
      | refine ⟨_, refIsKey_sp E _, ?_⟩
      | fail
    all_goals first
      | exact Dle.i (by rw [faultE_eq, hK, keysFrom_name (by omega) (by simp only [Int.toNat_natCast] at *; first | assumption | (rw [show ((k : Int) - 1).toNat = k - 1 by omega] at *; assumption))]; rfl)
      | exact Dle.i (by rw [faultE_eq, hK, keysFrom_order (by omega) (by simp only [Int.toNat_natCast] at *; first | assumption | (rw [show ((k : Int) - 1).toNat = k - 1 by omega] at *; assumption)) (by omega) (by simp only [Int.toNat_natCast] at *; first | assumption | (rw [show ((k : Int) - 1).toNat = k - 1 by omega] at *; assumption))]; rfl)
      | exact ⟨k + 1, ⟨by omega, by rw [hK, keysFrom_next0 (by omega) (by simp only [Int.toNat_natCast] at *; first | assumption | (rw [show ((k : Int) - 1).toNat = k - 1 by omega] at *; assumption)) (by omega)]⟩, ⟨[], ⟨by kernel_rfl, by kernel_rfl, by kernel_rfl, by kernel_rfl, by kernel_rfl, by kernel_rfl, by kernel_rfl⟩, (by repeat' first | exact trivial | exact rfl | kernel_rfl | exact Dle.of_eq rfl | exact MLe.of_eq rfl | exact Dle.i (by omega) | exact Dle.i (by simp only [Int.toNat_natCast] at *; omega) | exact Dle.nil | exact Dle.rc Dle.nil | exact Option.some_ne_none _ | exact Or.inl rfl | exact Or.inr trivial | omega | (simp only [Int.toNat_natCast] at *; omega) | (intro _ _ _ _; exact Dle.of_eq rfl) | refine And.intro ?_ ?_)⟩, by first | omega | (dsimp only; omega)⟩
      | exact ⟨k + 1, ⟨by omega, by rw [hK, keysFrom_next (by omega) (by simp only [Int.toNat_natCast] at *; first | assumption | (rw [show ((k : Int) - 1).toNat = k - 1 by omega] at *; assumption)) (by simp only [Int.toNat_natCast] at *; first | assumption | (rw [show ((k : Int) - 1).toNat = k - 1 by omega] at *; assumption))]⟩, ⟨[], ⟨by kernel_rfl, by kernel_rfl, by kernel_rfl, by kernel_rfl, by kernel_rfl, by kernel_rfl, by kernel_rfl⟩, (by repeat' first | exact trivial | exact rfl | kernel_rfl | exact Dle.of_eq rfl | exact MLe.of_eq rfl | exact Dle.i (by omega) | exact Dle.i (by simp only [Int.toNat_natCast] at *; omega) | exact Dle.nil | exact Dle.rc Dle.nil | exact Option.some_ne_none _ | exact Or.inl rfl | exact Or.inr trivial | omega | (simp only [Int.toNat_natCast] at *; omega) | (intro _ _ _ _; exact Dle.of_eq rfl) | refine And.intro ?_ ?_)⟩, by first | omega | (dsimp only; omega)⟩
      | skip
    have hF : faultE v = faultL v.items := by rw [faultE_eq, hK, keysFrom_end (by omega)]; rfl
    refine ⟨Nat, fun k => [(126, i64 k)], fun k => [], [], fun k => [], fun k => k ≤ v.items.length ∧ faultE v = faultL (v.items.drop k), fun k => v.items.length - k, ⟨0, ⟨by omega, hF⟩, ⟨[], ⟨by kernel_rfl, by kernel_rfl, by kernel_rfl, by kernel_rfl, by kernel_rfl, by kernel_rfl, by kernel_rfl⟩, (by repeat' first | exact trivial | exact rfl | kernel_rfl | exact Dle.of_eq rfl | exact MLe.of_eq rfl | exact Dle.i (by omega) | exact Dle.i (by simp only [Int.toNat_natCast] at *; omega) | exact Dle.nil | exact Dle.rc Dle.nil | exact Option.some_ne_none _ | exact Or.inl rfl | exact Or.inr trivial | omega | (simp only [Int.toNat_natCast] at *; omega) | (intro _ _ _ _; exact Dle.of_eq rfl) | refine And.intro ?_ ?_)⟩⟩, fun k hk => ?_⟩
    obtain ⟨hk, hK⟩ := hk
    refine Or.inl ?_
    refine condW_dec ?_ ?_
    · intro hlt
      have hlt : k < v.items.length := by omega
      repeat' first
        | (refine facW_intro ?_; intro _)
        | refine Or.inl ?_
        | ((conv => whnf); first | (refine condW_dec ?_ ?_ <;> intro _) | refine condW_not ?_ | (refine condW_bool ?_ ?_ <;> intro _) | (refine nbC_t (fun _ => ?_) ?_) | (refine nbC_f ?_ (fun _ => ?_)))
        | refine And.intro (by first | omega | (simp only [Int.toNat_natCast] at *; omega) | (simp only [Nat.reduceAdd, Int.cast_ofNat_Int, true_and, and_true]; omega)  | kernel_rfl) ?_
        | refine RegW.run ?_
        | refine ⟨_, ih _ (getD_mem v.items .zero k hlt), ?_⟩
        | fail
      · refine ⟨k + 1, ⟨by omega, ?_⟩, ⟨[], ⟨by kernel_rfl, by kernel_rfl, by kernel_rfl, by kernel_rfl, by kernel_rfl, by kernel_rfl, by kernel_rfl⟩, (by repeat' first | exact trivial | exact rfl | kernel_rfl | exact Dle.of_eq rfl | exact MLe.of_eq rfl | exact Dle.i (by omega) | exact Dle.i (by simp only [Int.toNat_natCast] at *; omega) | exact Dle.nil | exact Dle.rc Dle.nil | exact Option.some_ne_none _ | exact Or.inl rfl | exact Or.inr trivial | omega | (simp only [Int.toNat_natCast] at *; omega) | (intro _ _ _ _; exact Dle.of_eq rfl) | refine And.intro ?_ ?_)⟩, by first | omega | (dsimp only; omega)⟩
        rw [hK, faultL_drop hlt, if_pos (by simp only [Int.toNat_natCast] at *; first | assumption | (rw [show ((k : Int) - 1).toNat = k - 1 by omega] at *; assumption))]
      · refine Dle.i ?_
        rw [hK, faultL_drop hlt, if_neg (by simp only [Int.toNat_natCast] at *; first | assumption | (rw [show ((k : Int) - 1).toNat = k - 1 by omega] at *; assumption))]
        rfl
    · intro hge
      repeat' first
        | (refine facW_intro ?_; intro _)
        | refine Or.inl ?_
        | ((conv => whnf); first | (refine condW_dec ?_ ?_ <;> intro _) | refine condW_not ?_ | (refine condW_bool ?_ ?_ <;> intro _) | (refine nbC_t (fun _ => ?_) ?_) | (refine nbC_f ?_ (fun _ => ?_)))
        | refine And.intro (by first | omega | (simp only [Int.toNat_natCast] at *; omega) | (simp only [Nat.reduceAdd, Int.cast_ofNat_Int, true_and, and_true]; omega)  | kernel_rfl) ?_
        | refine RegW.run ?_
        | fail
      exact Dle.i (by rw [hK, faultL_end (by omega)])
theorem confCheck_sp (v : Vu) (hb : cnt v ≤ 4611686018427387904) : Sp (cx Tryz.prog mixed tyT_ok E) 9 [encV v] (i64 (checkE v)) := by
  have hl := lvl_le_cnt v
  refine Sp.body Tryz.func9 (by kernel_rfl) rfl (by kernel_rfl) (by kernel_rfl) (by kernel_rfl) ?_
  repeat' first
    | (refine facW_intro ?_; intro _)
    | refine Or.inl ?_
    | ((conv => whnf); first | (refine condW_dec ?_ ?_ <;> intro _) | refine condW_not ?_ | (refine condW_bool ?_ ?_ <;> intro _) | (refine nbC_t (fun _ => ?_) ?_) | (refine nbC_f ?_ (fun _ => ?_)))
    | refine And.intro (by first | omega | (simp only [Int.toNat_natCast] at *; omega) | (simp only [Nat.reduceAdd, Int.cast_ofNat_Int, true_and, and_true]; omega)  | kernel_rfl) ?_
    | refine RegW.run ?_
    | refine ⟨_, valuesOf_sp E _ v (Nat.lt_succ_self _) hb, ?_⟩
    | refine ⟨_, levelsOf_sp E _ v (Nat.lt_succ_self _) (by omega), ?_⟩
    | refine ⟨_, eachValue_sp E _ v (Nat.lt_succ_self _), ?_⟩
    | fail
  all_goals exact Dle.i (by unfold checkE; grind)
end
end Go.Proofs.YtocehfhhmljejaaGreatDoor
