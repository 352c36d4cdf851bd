/-
  The law of sums and extremes.
-/
import Derived.Test.YtnealjgndobknaaGreatDoorUB
namespace Go.Proofs.YtnealjgndobknaaGreatDoor
open Go.RowKit
set_option linter.unusedVariables false
set_option linter.unusedSimpArgs false
section
variable (E : Env)
set_option maxRecDepth 100000
set_option maxHeartbeats 4000000 in
theorem listSums_sp (hML : ∀ w, E.G w → ML w) (l : List Vu) (s : ByteArray) (hw : Vu.wtL l ≤ 100000000) (hs : s.size ≤ 1000000000) (hi : Vu.i64L l) : Sp (cx Tryz.prog mixed tyT_ok E) 3 [.rc (.vals l), dS s] (dB true) := by
  have h1 := sum_sp E l s hw hs hi
  have h2 := sumOf_sp E hML l s hw hs hi
  have h3 := extremes_sp E l s hw hs
  have h4 := refRouteFault_sp E hML l s hw hs
  have hok := @routeE_ok l s
  have hlen : l.length ≤ 100000000 := by have := len_le_wtM l; omega
  generalize sumE l s = t at h1 h2
  unfold exE at h3
  generalize routeE l s = e at h3 h4 hok
  by_cases he : e = 0
  · subst he
    rw [if_neg (by decide)] at h3
    have hit := (hok rfl).1
    have hX : ∀ k, k < l.length → (l.map fun v => hasR v s).getD k .zero = hasR (l.getD k .zero) s := fun k hk => by simp [List.getD, hk]
    have hml : (l.map fun v => hasR v s).length = l.length := by simp
    generalize (l.map fun v => hasR v s) = m at hX hml h3
    obtain ⟨o, ho⟩ : ∃ o, o = exQ m 0 (-1, -1) := ⟨_, rfl⟩
    unfold exR at h3
    rw [← ho] at h3
    obtain ⟨r, hr⟩ : ∃ r : Int × Int × Int, r = if o.1 < 0 then (0, 0, 7) else (o.1, o.2, 0) := ⟨_, rfl⟩
    rw [← hr] at h3
    refine Sp.body Tryz.func3 (by kernel_rfl) rfl (by kernel_rfl) (by kernel_rfl) (by kernel_rfl) ?_
    repeat' first
      | (refine facW_intro ?_; intro _)
      | refine Or.inl ?_
      | ((conv => whnf); first | (refine condW_dec ?_ ?_ <;> intro _) | refine condW_not ?_ | (refine condW_bool ?_ ?_ <;> intro _))
      | refine And.intro (by first | omega | (simp only [Int.toNat_natCast] at *; omega) | (simp only [Nat.reduceAdd, Int.cast_ofNat_Int, true_and, and_true]; omega) | kernel_rfl) ?_
      | refine RegW.run ?_
      | refine ⟨_, h1, ?_⟩
      | refine ⟨_, h2, ?_⟩
      | refine ⟨_, h3, ?_⟩
      | refine ⟨_, h4, ?_⟩
      | fail
    all_goals try (exfalso; rename_i h; exact h rfl)
    all_goals try (exfalso; rename_i h _; exact h rfl)
    refine ⟨Nat × Int × Int, fun k => [(62, i64 k.1), (12, i64 k.2.1), (13, i64 k.2.2)], fun k => [], [], fun k => [], fun k => k.1 ≤ l.length ∧ -1 ≤ k.2.1 ∧ k.2.1 < k.1 ∧ -1 ≤ k.2.2 ∧ k.2.2 < k.1 ∧ o = exQ m k.1 k.2, fun k => l.length - k.1, ⟨(0, -1, -1), ⟨by omega, by decide, by decide, by decide, by decide, ho⟩, ⟨[], ⟨by kernel_rfl, by kernel_rfl, by kernel_rfl, by kernel_rfl, by kernel_rfl, by kernel_rfl, by kernel_rfl⟩, (by repeat' first | exact trivial | exact rfl | kernel_rfl | exact Dle.of_eq rfl | exact Dle.i (by omega) | exact Dle.i (by simp only [Int.toNat_natCast] at *; omega) | exact Dle.nil | exact Dle.rc Dle.nil | exact Option.some_ne_none _ | exact Or.inl rfl | exact Or.inr trivial | omega | (simp only [Int.toNat_natCast] at *; omega) | (intro _ _ _ _; exact Dle.of_eq rfl) | refine And.intro ?_ ?_)⟩⟩, fun k hk => ?_⟩
    obtain ⟨g1, g2, g3, g4, g5, g6⟩ := hk
    by_cases hlt : k.1 < l.length
    · rw [exQ_next (by omega)] at g6
      have hcm := fun v w => compareOf_sp E _ v w (Nat.lt_succ_self _)
      have hat := fun (k : Nat) (hk : k < l.length) => hasAt_sp E hML (l.getD k .zero) s (hit _ (getD_mem l .zero k hk)) hs
      have hk0 := hat (k.1 : Int).toNat hlt
      have e0 : m.getD k.1 .zero = hasR (l.getD ((k.1 : Int)).toNat .zero) s := hX _ hlt
      by_cases hz : (hasR (l.getD ((k.1 : Int)).toNat .zero) s).kind = 0
      · rw [ex_nil (by rw [e0]; exact hz)] at g6
        repeat' first
          | (refine facW_intro ?_; intro _)
          | refine Or.inl ?_
          | ((conv => whnf); first | (refine condW_dec ?_ ?_ <;> intro _ <;> try (exfalso; omega)) | refine condW_not ?_ | (refine condW_bool ?_ ?_ <;> intro _ <;> try (exfalso; omega)))
          | refine And.intro (by first | omega | (simp only [Int.toNat_natCast] at *; omega) | (simp only [Nat.reduceAdd, Int.cast_ofNat_Int, true_and, and_true]; omega) | kernel_rfl) ?_
          | refine RegW.run ?_
          | refine ⟨_, hk0, ?_⟩
          | fail
        exact ⟨(k.1 + 1, k.2), ⟨by dsimp only; omega, g2, by dsimp only; omega, g4, by dsimp only; omega, g6⟩, ⟨[], ⟨by kernel_rfl, by kernel_rfl, by kernel_rfl, by kernel_rfl, by kernel_rfl, by kernel_rfl, by kernel_rfl⟩, (by repeat' first | exact trivial | exact rfl | kernel_rfl | exact Dle.of_eq rfl | exact Dle.i (by omega) | exact Dle.i (by simp only [Int.toNat_natCast] at *; omega) | exact Dle.nil | exact Dle.rc Dle.nil | exact Option.some_ne_none _ | exact Or.inl rfl | exact Or.inr trivial | omega | (simp only [Int.toNat_natCast] at *; omega) | (intro _ _ _ _; exact Dle.of_eq rfl) | refine And.intro ?_ ?_)⟩, by first | omega | (dsimp only; omega)⟩
      · rw [ex_some (by rw [e0]; exact hz), e0] at g6
        repeat' first
          | (refine facW_intro ?_; intro _)
          | refine Or.inl ?_
          | ((conv => whnf); first | (refine condW_dec ?_ ?_ <;> intro _ <;> try (exfalso; omega)) | refine condW_not ?_ | (refine condW_bool ?_ ?_ <;> intro _ <;> try (exfalso; omega)))
          | refine And.intro (by first | omega | (simp only [Int.toNat_natCast] at *; omega) | (simp only [Nat.reduceAdd, Int.cast_ofNat_Int, true_and, and_true]; omega) | kernel_rfl) ?_
          | refine RegW.run ?_
          | refine ⟨_, hk0, ?_⟩
          | refine ⟨_, hat _ (by omega), ?_⟩
          | refine ⟨_, hcm _ _, ?_⟩
          | fail
        all_goals first
          | (have p1 : (k.2.1 < 0 ∨ cmpV (hasR (l.getD ((k.1 : Int)).toNat .zero) s) (m.getD k.2.1.toNat .zero) < 0) := by first | exact .inl (by assumption) | exact .inr (by rw [hX _ (by omega)]; assumption)
             rw [if_pos p1] at g6
             first
               | (have p2 : (k.2.2 < 0 ∨ 0 < cmpV (hasR (l.getD ((k.1 : Int)).toNat .zero) s) (m.getD k.2.2.toNat .zero)) := by first | exact .inl (by assumption) | exact .inr (by rw [hX _ (by omega)]; assumption)
                  rw [if_pos p2] at g6
                  exact ⟨(k.1 + 1, (k.1 : Int), (k.1 : Int)), ⟨by dsimp only; omega, by dsimp only; omega, by dsimp only; omega, by dsimp only; omega, by dsimp only; omega, g6⟩, ⟨[], ⟨by kernel_rfl, by kernel_rfl, by kernel_rfl, by kernel_rfl, by kernel_rfl, by kernel_rfl, by kernel_rfl⟩, (by repeat' first | exact trivial | exact rfl | kernel_rfl | exact Dle.of_eq rfl | exact Dle.i (by omega) | exact Dle.i (by simp only [Int.toNat_natCast] at *; omega) | exact Dle.nil | exact Dle.rc Dle.nil | exact Option.some_ne_none _ | exact Or.inl rfl | exact Or.inr trivial | omega | (simp only [Int.toNat_natCast] at *; omega) | (intro _ _ _ _; exact Dle.of_eq rfl) | refine And.intro ?_ ?_)⟩, by first | omega | (dsimp only; omega)⟩)
               | (have p2 : ¬ (k.2.2 < 0 ∨ 0 < cmpV (hasR (l.getD ((k.1 : Int)).toNat .zero) s) (m.getD k.2.2.toNat .zero)) := fun h => h.elim (by assumption) (by rw [hX _ (by omega)]; assumption)
                  rw [if_neg p2] at g6
                  exact ⟨(k.1 + 1, (k.1 : Int), k.2.2), ⟨by dsimp only; omega, by dsimp only; omega, by dsimp only; omega, by dsimp only; omega, by dsimp only; omega, g6⟩, ⟨[], ⟨by kernel_rfl, by kernel_rfl, by kernel_rfl, by kernel_rfl, by kernel_rfl, by kernel_rfl, by kernel_rfl⟩, (by repeat' first | exact trivial | exact rfl | kernel_rfl | exact Dle.of_eq rfl | exact Dle.i (by omega) | exact Dle.i (by simp only [Int.toNat_natCast] at *; omega) | exact Dle.nil | exact Dle.rc Dle.nil | exact Option.some_ne_none _ | exact Or.inl rfl | exact Or.inr trivial | omega | (simp only [Int.toNat_natCast] at *; omega) | (intro _ _ _ _; exact Dle.of_eq rfl) | refine And.intro ?_ ?_)⟩, by first | omega | (dsimp only; omega)⟩))
          | (have p1 : ¬ (k.2.1 < 0 ∨ cmpV (hasR (l.getD ((k.1 : Int)).toNat .zero) s) (m.getD k.2.1.toNat .zero) < 0) := fun h => h.elim (by assumption) (by rw [hX _ (by omega)]; assumption)
             rw [if_neg p1] at g6
             first
               | (have p2 : (k.2.2 < 0 ∨ 0 < cmpV (hasR (l.getD ((k.1 : Int)).toNat .zero) s) (m.getD k.2.2.toNat .zero)) := by first | exact .inl (by assumption) | exact .inr (by rw [hX _ (by omega)]; assumption)
                  rw [if_pos p2] at g6
                  exact ⟨(k.1 + 1, k.2.1, (k.1 : Int)), ⟨by dsimp only; omega, by dsimp only; omega, by dsimp only; omega, by dsimp only; omega, by dsimp only; omega, g6⟩, ⟨[], ⟨by kernel_rfl, by kernel_rfl, by kernel_rfl, by kernel_rfl, by kernel_rfl, by kernel_rfl, by kernel_rfl⟩, (by repeat' first | exact trivial | exact rfl | kernel_rfl | exact Dle.of_eq rfl | exact Dle.i (by omega) | exact Dle.i (by simp only [Int.toNat_natCast] at *; omega) | exact Dle.nil | exact Dle.rc Dle.nil | exact Option.some_ne_none _ | exact Or.inl rfl | exact Or.inr trivial | omega | (simp only [Int.toNat_natCast] at *; omega) | (intro _ _ _ _; exact Dle.of_eq rfl) | refine And.intro ?_ ?_)⟩, by first | omega | (dsimp only; omega)⟩)
               | (have p2 : ¬ (k.2.2 < 0 ∨ 0 < cmpV (hasR (l.getD ((k.1 : Int)).toNat .zero) s) (m.getD k.2.2.toNat .zero)) := fun h => h.elim (by assumption) (by rw [hX _ (by omega)]; assumption)
                  rw [if_neg p2] at g6
                  exact ⟨(k.1 + 1, k.2.1, k.2.2), ⟨by dsimp only; omega, by dsimp only; omega, by dsimp only; omega, by dsimp only; omega, by dsimp only; omega, g6⟩, ⟨[], ⟨by kernel_rfl, by kernel_rfl, by kernel_rfl, by kernel_rfl, by kernel_rfl, by kernel_rfl, by kernel_rfl⟩, (by repeat' first | exact trivial | exact rfl | kernel_rfl | exact Dle.of_eq rfl | exact Dle.i (by omega) | exact Dle.i (by simp only [Int.toNat_natCast] at *; omega) | exact Dle.nil | exact Dle.rc Dle.nil | exact Option.some_ne_none _ | exact Or.inl rfl | exact Or.inr trivial | omega | (simp only [Int.toNat_natCast] at *; omega) | (intro _ _ _ _; exact Dle.of_eq rfl) | refine And.intro ?_ ?_)⟩, by first | omega | (dsimp only; omega)⟩))
          | trace_state
    · have h5 := exQ_end (m := m) (q := k.2) (by omega : ¬ k.1 < m.length)
      rw [h5] at g6
      rw [g6] at hr
      clear ho h5
      by_cases hneg : k.2.1 < 0
      · rw [if_pos hneg] at hr
        subst hr
        repeat' first
          | (refine facW_intro ?_; intro _)
          | refine Or.inl ?_
          | ((conv => whnf); first | (refine condW_dec ?_ ?_ <;> intro _ <;> try (exfalso; omega)) | refine condW_not ?_ | (refine condW_bool ?_ ?_ <;> intro _ <;> try (exfalso; omega)))
          | refine And.intro (by first | omega | (simp only [Int.toNat_natCast] at *; omega) | (simp only [Nat.reduceAdd, Int.cast_ofNat_Int, true_and, and_true]; omega) | kernel_rfl) ?_
          | refine RegW.run ?_
          | fail
        all_goals first
          | (exfalso; rename_i h; exact h rfl)
          | exact Dle.bo (by simp)
          | exact Dle.refl _ _
          | trace_state
      · rw [if_neg hneg] at hr
        subst hr
        repeat' first
          | (refine facW_intro ?_; intro _)
          | refine Or.inl ?_
          | ((conv => whnf); first | (refine condW_dec ?_ ?_ <;> intro _ <;> try (exfalso; omega)) | refine condW_not ?_ | (refine condW_bool ?_ ?_ <;> intro _ <;> try (exfalso; omega)))
          | refine And.intro (by first | omega | (simp only [Int.toNat_natCast] at *; omega) | (simp only [Nat.reduceAdd, Int.cast_ofNat_Int, true_and, and_true]; omega) | kernel_rfl) ?_
          | refine RegW.run ?_
          | fail
        all_goals first
          | (exfalso; rename_i h; exact h rfl)
          | exact Dle.bo (by simp)
          | exact Dle.refl _ _
          | trace_state
  · rw [if_pos he] at h3
    refine Sp.body Tryz.func3 (by kernel_rfl) rfl (by kernel_rfl) (by kernel_rfl) (by kernel_rfl) ?_
    repeat' first
      | (refine facW_intro ?_; intro _)
      | refine Or.inl ?_
      | ((conv => whnf); first | (refine condW_dec ?_ ?_ <;> intro _) | refine condW_not ?_ | (refine condW_bool ?_ ?_ <;> intro _))
      | refine And.intro (by first | omega | (simp only [Int.toNat_natCast] at *; omega) | (simp only [Nat.reduceAdd, Int.cast_ofNat_Int, true_and, and_true]; omega) | kernel_rfl) ?_
      | refine RegW.run ?_
      | refine ⟨_, h1, ?_⟩
      | refine ⟨_, h2, ?_⟩
      | refine ⟨_, h3, ?_⟩
      | refine ⟨_, h4, ?_⟩
      | fail
    all_goals first
      | (exfalso; rename_i h; exact h rfl)
      | (exfalso; rename_i h _; exact h rfl)
      | (exfalso; exact he (by assumption))
      | exact Dle.bo (by simp)
      | trace_state
end
end Go.Proofs.YtnealjgndobknaaGreatDoor
