/-
  A schema's value, the program: wrongKinds.
-/
import Derived.Test.YtilfmjldcigagaaGreatDoorRs1
namespace Go.Proofs.YtilfmjldcigagaaGreatDoor
open Go.RowKit
set_option linter.unusedVariables false
set_option linter.unusedSimpArgs false
namespace rs
section
variable (E : Env)
set_option maxRecDepth 100000
set_option maxHeartbeats 4000000 in
theorem wrongKinds_sp (v : Vu) (hf : faultE v = 0) (hw : v.wt ≤ 100000000) (r : Bool) (hr : r = true ↔ wrongK v) : Sp (cx Tryz.prog mixed tyT_ok E) 11 [encV v] (dB r) := by
  have hkw := keys_le_wt v
  have h1 := item_sp E v (⟨#[115, 116, 114, 105, 99, 116]⟩ : ByteArray) hf (by omega)
  have h2 := item_sp E v (⟨#[102, 105, 101, 108, 100, 115]⟩ : ByteArray) hf (by omega)
  have hF := item_fault hf (⟨#[102, 105, 101, 108, 100, 115]⟩ : ByteArray)
  unfold wrongK badTop flds at hr
  generalize itemK v (⟨#[115, 116, 114, 105, 99, 116]⟩ : ByteArray) = S at hr h1
  generalize itemK v (⟨#[102, 105, 101, 108, 100, 115]⟩ : ByteArray) = F at hr h2 hF
  generalize hasK v (⟨#[115, 116, 114, 105, 99, 116]⟩ : ByteArray) = bS at hr h1
  generalize hasK v (⟨#[102, 105, 101, 108, 100, 115]⟩ : ByteArray) = bF at hr h2
  by_cases hA : v.kind ≠ 6 ∨ (bS = true ∧ S.kind ≠ 1) ∨ (bF = true ∧ F.kind ≠ 5)
  · have hr := bo_t hr (by rcases hA with h | h | h; exact .inl h; exact .inr (.inl (.inl h)); exact .inr (.inl (.inr h)))
    subst hr
    refine Sp.body Tryz.func11 (by kernel_rfl) rfl (by kernel_rfl) (by kernel_rfl) (by kernel_rfl) ?_
    repeat' first
      | (refine facW_intro ?_; intro _)
      | refine Or.inl ?_
      | ((conv => whnf); first | (refine condW_dec ?_ ?_ <;> intro _ <;> try (exfalso; omega)) | refine condW_not ?_ | (refine condW_bool ?_ ?_ <;> intro _ <;> try (exfalso; omega)) | (refine nbC_t (fun _ => ?_) ?_) | (refine nbC_f ?_ (fun _ => ?_)))
      | refine And.intro (by first | omega | (simp only [Int.toNat_natCast] at *; omega) | (simp only [Nat.reduceAdd, Int.cast_ofNat_Int, true_and, and_true]; omega) | kernel_rfl) ?_
      | refine RegW.run ?_
      | refine ⟨_, h1, ?_⟩
      | refine ⟨_, h2, ?_⟩
      | fail
    all_goals first
      | exact Dle.refl _ _
      | (exfalso; simp_all; done)
      | trace_state
  · have hr : r = true ↔ ∃ i, i < F.items.length ∧ badTab (F.items.getD i .zero) := by
      rw [hr]
      constructor
      · rintro (h | h | h)
        · exact absurd (.inl h) hA
        · exact absurd (.inr h) hA
        · exact h
      · exact fun h => .inr (.inr h)
    have hA1 : v.kind = 6 := Classical.byContradiction fun h => hA (.inl h)
    have hA2 : bS = true → S.kind = 1 := fun h => Classical.byContradiction fun g => hA (.inr (.inl ⟨h, g⟩))
    have hA3 : bF = true → F.kind = 5 := fun h => Classical.byContradiction fun g => hA (.inr (.inr ⟨h, g⟩))
    clear hA
    refine Sp.body Tryz.func11 (by kernel_rfl) rfl (by kernel_rfl) (by kernel_rfl) (by kernel_rfl) ?_
    repeat' first
      | (refine facW_intro ?_; intro _)
      | refine Or.inl ?_
      | ((conv => whnf); first | (refine condW_dec ?_ ?_ <;> intro _ <;> try (exfalso; omega)) | refine condW_not ?_ | (refine condW_bool ?_ ?_ <;> intro _ <;> try (exfalso; omega)) | (refine nbC_t (fun _ => ?_) ?_) | (refine nbC_f ?_ (fun _ => ?_)))
      | refine And.intro (by first | omega | (simp only [Int.toNat_natCast] at *; omega) | (simp only [Nat.reduceAdd, Int.cast_ofNat_Int, true_and, and_true]; omega) | kernel_rfl) ?_
      | refine RegW.run ?_
      | refine ⟨_, h1, ?_⟩
      | refine ⟨_, h2, ?_⟩
      | fail
    all_goals try (exfalso; simp_all; done)
    all_goals
      refine ⟨Nat, fun k => [(42, i64 k)], fun k => [], [1, 3, 5], fun k => [], fun k => k ≤ F.items.length ∧ ∀ i, i < k → ¬ badTab (F.items.getD i .zero), fun k => F.items.length - k, ⟨0, ⟨by omega, fun i hi => by omega⟩, ⟨[], ⟨by kernel_rfl, by kernel_rfl, by kernel_rfl, by kernel_rfl, by kernel_rfl, by kernel_rfl, by kernel_rfl⟩, (by repeat' first | exact trivial | exact rfl | kernel_rfl | exact Dle.of_eq rfl | exact MLe.of_eq rfl | exact Dle.i (by omega) | exact Dle.i (by simp only [Int.toNat_natCast] at *; omega) | exact Dle.nil | exact Dle.rc Dle.nil | exact Option.some_ne_none _ | exact Or.inl rfl | exact Or.inr trivial | omega | (simp only [Int.toNat_natCast] at *; omega) | (intro _ _ _ _; exact Dle.of_eq rfl) | refine And.intro ?_ ?_)⟩⟩, fun k hk => ?_⟩
      obtain ⟨hk, hK⟩ := hk
      by_cases hlt : k < F.items.length
      · have hT := fault_mem hF hlt
        have hr1 : badTab (F.items.getD k .zero) → true = r := fun h => bo_t hr ⟨k, hlt, h⟩
        have hk2 := (fault_keys hT).2
        by_cases hk6 : (F.items.getD k .zero).kind = 6
        · have hk2 := hk2 hk6
          have hk6' : (F.items.getD ((k : Int)).toNat .zero).kind = 6 := hk6
          repeat' first
            | (refine facW_intro ?_; intro _)
            | refine Or.inl ?_
            | ((conv => whnf); first | (refine condW_dec ?_ ?_ <;> intro _ <;> try (exfalso; omega)) | refine condW_not ?_ | (refine condW_bool ?_ ?_ <;> intro _ <;> try (exfalso; omega)) | (refine nbC_t (fun _ => ?_) ?_) | (refine nbC_f ?_ (fun _ => ?_)))
            | refine And.intro (by first | omega | (simp only [Int.toNat_natCast] at *; omega) | (simp only [Nat.reduceAdd, Int.cast_ofNat_Int, true_and, and_true]; omega) | kernel_rfl) ?_
            | refine RegW.run ?_
            | fail
          refine ⟨Nat, fun j => [(52, i64 j)], fun j => [], [1, 3, 5, 8], fun j => [], fun j => j ≤ (F.items.getD k .zero).keys.length ∧ ∀ i, i < j → ¬ badIt ((F.items.getD k .zero).keys.getD i ⟨#[]⟩) ((F.items.getD k .zero).items.getD i .zero), fun j => (F.items.getD k .zero).keys.length - j, ⟨0, ⟨by omega, fun i hi => by omega⟩, ⟨[], ⟨by kernel_rfl, by kernel_rfl, by kernel_rfl, by kernel_rfl, by kernel_rfl, by kernel_rfl, by kernel_rfl⟩, (by repeat' first | exact trivial | exact rfl | kernel_rfl | exact Dle.of_eq rfl | exact MLe.of_eq rfl | exact Dle.i (by omega) | exact Dle.i (by simp only [Int.toNat_natCast] at *; omega) | exact Dle.nil | exact Dle.rc Dle.nil | exact Option.some_ne_none _ | exact Or.inl rfl | exact Or.inr trivial | omega | (simp only [Int.toNat_natCast] at *; omega) | (intro _ _ _ _; exact Dle.of_eq rfl) | refine And.intro ?_ ?_)⟩⟩, fun j hj => ?_⟩
          obtain ⟨hj, hJ⟩ := hj
          by_cases hjl : j < (F.items.getD k .zero).keys.length
          · have hjl' : j < (F.items.getD ((k : Int)).toNat .zero).keys.length := hjl
            have h3 := fieldKind_sp E ((F.items.getD k .zero).keys.getD j ⟨#[]⟩)
            have hr2 : badIt ((F.items.getD k .zero).keys.getD j ⟨#[]⟩) ((F.items.getD k .zero).items.getD j .zero) → true = r := fun h => hr1 (.inr ⟨j, hjl, h⟩)
            have hbd : badIt ((F.items.getD k .zero).keys.getD j ⟨#[]⟩) ((F.items.getD k .zero).items.getD j .zero) → (fk ((F.items.getD k .zero).keys.getD j ⟨#[]⟩) ≠ -1 ∧ ((F.items.getD k .zero).items.getD j .zero).kind ≠ fk ((F.items.getD k .zero).keys.getD j ⟨#[]⟩)) ∨ ((F.items.getD k .zero).keys.getD j ⟨#[]⟩ = (⟨#[111, 110, 101, 111, 102]⟩ : ByteArray) ∧ ∃ i, i < ((F.items.getD k .zero).items.getD j .zero).items.length ∧ (((F.items.getD k .zero).items.getD j .zero).items.getD i .zero).kind ≠ 3) := fun h => h
            unfold badIt at hr2
            generalize fk ((F.items.getD k .zero).keys.getD j ⟨#[]⟩) = q at h3 hr2 hbd
            by_cases hb : q ≠ -1 ∧ ((F.items.getD k .zero).items.getD j .zero).kind ≠ q
            · have hr2 := hr2 (.inl hb)
              subst hr2
              obtain ⟨hb1, hb2⟩ := hb
              have hb2' : ((F.items.getD ((k : Int)).toNat .zero).items.getD ((j : Int)).toNat .zero).kind ≠ q := hb2
              repeat' first
                | (refine facW_intro ?_; intro _)
                | refine Or.inl ?_
                | ((conv => whnf); first | (refine condW_dec ?_ ?_ <;> intro _ <;> try (exfalso; omega)) | refine condW_not ?_ | (refine condW_bool ?_ ?_ <;> intro _ <;> try (exfalso; omega)) | (refine nbC_t (fun _ => ?_) ?_) | (refine nbC_f ?_ (fun _ => ?_)))
                | refine And.intro (by first | omega | (simp only [Int.toNat_natCast] at *; omega) | (simp only [Nat.reduceAdd, Int.cast_ofNat_Int, true_and, and_true]; omega) | kernel_rfl) ?_
                | refine RegW.run ?_
                | refine ⟨_, h3, ?_⟩
                | fail
              all_goals first
                | exact Dle.refl _ _
                | trace_state
            · have hb3 : q = -1 ∨ ((F.items.getD ((k : Int)).toNat .zero).items.getD ((j : Int)).toNat .zero).kind = q := by
                by_cases h : q = -1
                · exact .inl h
                · exact .inr (Classical.byContradiction fun g => hb ⟨h, g⟩)
              repeat' first
                | (refine facW_intro ?_; intro _)
                | refine Or.inl ?_
                | ((conv => whnf); first | (refine condW_dec ?_ ?_ <;> intro _ <;> try (exfalso; omega)) | refine condW_not ?_ | (refine condW_bool ?_ ?_ <;> intro _ <;> try (exfalso; omega)) | (refine nbC_t (fun _ => ?_) ?_) | (refine nbC_f ?_ (fun _ => ?_)))
                | refine And.intro (by first | omega | (simp only [Int.toNat_natCast] at *; omega) | (simp only [Nat.reduceAdd, Int.cast_ofNat_Int, true_and, and_true]; omega) | kernel_rfl) ?_
                | refine RegW.run ?_
                | refine ⟨_, h3, ?_⟩
                | fail
              all_goals try (exfalso; omega)
              all_goals
                refine ⟨Nat, fun m => [(78, i64 m)], fun m => [], [1, 3, 5, 8], fun m => [], fun m => m ≤ ((F.items.getD k .zero).items.getD j .zero).items.length ∧ ((F.items.getD k .zero).keys.getD j ⟨#[]⟩ = (⟨#[111, 110, 101, 111, 102]⟩ : ByteArray) → ∀ i, i < m → (((F.items.getD k .zero).items.getD j .zero).items.getD i .zero).kind = 3), fun m => ((F.items.getD k .zero).items.getD j .zero).items.length - m, ⟨0, ⟨by omega, fun _ i hi => by omega⟩, ⟨[], ⟨by kernel_rfl, by kernel_rfl, by kernel_rfl, by kernel_rfl, by kernel_rfl, by kernel_rfl, by kernel_rfl⟩, (by repeat' first | exact trivial | exact rfl | kernel_rfl | exact Dle.of_eq rfl | exact MLe.of_eq rfl | exact Dle.i (by omega) | exact Dle.i (by simp only [Int.toNat_natCast] at *; omega) | exact Dle.nil | exact Dle.rc Dle.nil | exact Option.some_ne_none _ | exact Or.inl rfl | exact Or.inr trivial | omega | (simp only [Int.toNat_natCast] at *; omega) | (intro _ _ _ _; exact Dle.of_eq rfl) | refine And.intro ?_ ?_)⟩⟩, fun m hm => ?_⟩
                obtain ⟨hm, hM⟩ := hm
                by_cases hml : m < ((F.items.getD k .zero).items.getD j .zero).items.length
                · have hml' : m < ((F.items.getD ((k : Int)).toNat .zero).items.getD ((j : Int)).toNat .zero).items.length := hml
                  by_cases ho : (F.items.getD k .zero).keys.getD j ⟨#[]⟩ = (⟨#[111, 110, 101, 111, 102]⟩ : ByteArray)
                  · have ho' : (F.items.getD ((k : Int)).toNat .zero).keys.getD ((j : Int)).toNat ⟨#[]⟩ = (⟨#[111, 110, 101, 111, 102]⟩ : ByteArray) := ho
                    by_cases h3k : (((F.items.getD k .zero).items.getD j .zero).items.getD m .zero).kind = 3
                    · have h3k' : (((F.items.getD ((k : Int)).toNat .zero).items.getD ((j : Int)).toNat .zero).items.getD ((m : Int)).toNat .zero).kind = 3 := h3k
                      repeat' first
                        | (refine facW_intro ?_; intro _)
                        | refine Or.inl ?_
                        | ((conv => whnf); first | (refine condW_dec ?_ ?_ <;> intro _ <;> try (exfalso; omega)) | refine condW_not ?_ | (refine condW_bool ?_ ?_ <;> intro _ <;> try (exfalso; omega)) | (refine nbC_t (fun _ => ?_) ?_) | (refine nbC_f ?_ (fun _ => ?_)))
                        | refine And.intro (by first | omega | (simp only [Int.toNat_natCast] at *; omega) | (simp only [Nat.reduceAdd, Int.cast_ofNat_Int, true_and, and_true]; omega) | kernel_rfl) ?_
                        | refine RegW.run ?_
                        | fail
                      all_goals first
                        | (exfalso; omega)
                        | (exfalso; rename_i h; exact h ho')
                        | exact ⟨m + 1, ⟨by omega, fun h i hi => by
                            by_cases e : i = m
                            · rw [e]; exact h3k
                            · exact hM h i (by omega)⟩, ⟨[], ⟨by kernel_rfl, by kernel_rfl, by kernel_rfl, by kernel_rfl, by kernel_rfl, by kernel_rfl, by kernel_rfl⟩, (by repeat' first | exact trivial | exact rfl | kernel_rfl | exact Dle.of_eq rfl | exact MLe.of_eq rfl | exact Dle.i (by omega) | exact Dle.i (by simp only [Int.toNat_natCast] at *; omega) | exact Dle.nil | exact Dle.rc Dle.nil | exact Option.some_ne_none _ | exact Or.inl rfl | exact Or.inr trivial | omega | (simp only [Int.toNat_natCast] at *; omega) | (intro _ _ _ _; exact Dle.of_eq rfl) | refine And.intro ?_ ?_)⟩, by first | omega | (dsimp only; omega)⟩
                        | trace_state
                    · have h3k' : ¬ (((F.items.getD ((k : Int)).toNat .zero).items.getD ((j : Int)).toNat .zero).items.getD ((m : Int)).toNat .zero).kind = 3 := h3k
                      have hr2 := hr2 (.inr ⟨ho, m, hml, h3k⟩)
                      subst hr2
                      repeat' first
                        | (refine facW_intro ?_; intro _)
                        | refine Or.inl ?_
                        | ((conv => whnf); first | (refine condW_dec ?_ ?_ <;> intro _ <;> try (exfalso; omega)) | refine condW_not ?_ | (refine condW_bool ?_ ?_ <;> intro _ <;> try (exfalso; omega)) | (refine nbC_t (fun _ => ?_) ?_) | (refine nbC_f ?_ (fun _ => ?_)))
                        | refine And.intro (by first | omega | (simp only [Int.toNat_natCast] at *; omega) | (simp only [Nat.reduceAdd, Int.cast_ofNat_Int, true_and, and_true]; omega) | kernel_rfl) ?_
                        | refine RegW.run ?_
                        | fail
                      all_goals first
                        | (exfalso; exact h3k' (by assumption))
                        | (exfalso; omega)
                        | (exfalso; rename_i h; exact h ho')
                        | exact Dle.refl _ _
                        | trace_state
                  · have ho' : ¬ (F.items.getD ((k : Int)).toNat .zero).keys.getD ((j : Int)).toNat ⟨#[]⟩ = (⟨#[111, 110, 101, 111, 102]⟩ : ByteArray) := ho
                    repeat' first
                      | (refine facW_intro ?_; intro _)
                      | refine Or.inl ?_
                      | ((conv => whnf); first | (refine condW_dec ?_ ?_ <;> intro _ <;> try (exfalso; omega)) | refine condW_not ?_ | (refine condW_bool ?_ ?_ <;> intro _ <;> try (exfalso; omega)) | (refine nbC_t (fun _ => ?_) ?_) | (refine nbC_f ?_ (fun _ => ?_)))
                      | refine And.intro (by first | omega | (simp only [Int.toNat_natCast] at *; omega) | (simp only [Nat.reduceAdd, Int.cast_ofNat_Int, true_and, and_true]; omega) | kernel_rfl) ?_
                      | refine RegW.run ?_
                      | fail
                    all_goals first
                      | (exfalso; exact ho' (by assumption))
                      | exact ⟨m + 1, ⟨by omega, fun h => absurd h ho⟩, ⟨[], ⟨by kernel_rfl, by kernel_rfl, by kernel_rfl, by kernel_rfl, by kernel_rfl, by kernel_rfl, by kernel_rfl⟩, (by repeat' first | exact trivial | exact rfl | kernel_rfl | exact Dle.of_eq rfl | exact MLe.of_eq rfl | exact Dle.i (by omega) | exact Dle.i (by simp only [Int.toNat_natCast] at *; omega) | exact Dle.nil | exact Dle.rc Dle.nil | exact Option.some_ne_none _ | exact Or.inl rfl | exact Or.inr trivial | omega | (simp only [Int.toNat_natCast] at *; omega) | (intro _ _ _ _; exact Dle.of_eq rfl) | refine And.intro ?_ ?_)⟩, by first | omega | (dsimp only; omega)⟩
                      | trace_state
                · have hml' : ¬ m < ((F.items.getD ((k : Int)).toNat .zero).items.getD ((j : Int)).toNat .zero).items.length := hml
                  have hnB : ¬ badIt ((F.items.getD k .zero).keys.getD j ⟨#[]⟩) ((F.items.getD k .zero).items.getD j .zero) := fun h => by
                    rcases hbd h with h | ⟨ho, i, hi, h⟩
                    · exact hb h
                    · exact h (hM ho i (by omega))
                  repeat' first
                    | (refine facW_intro ?_; intro _)
                    | refine Or.inl ?_
                    | ((conv => whnf); first | (refine condW_dec ?_ ?_ <;> intro _ <;> try (exfalso; omega)) | refine condW_not ?_ | (refine condW_bool ?_ ?_ <;> intro _ <;> try (exfalso; omega)) | (refine nbC_t (fun _ => ?_) ?_) | (refine nbC_f ?_ (fun _ => ?_)))
                    | refine And.intro (by first | omega | (simp only [Int.toNat_natCast] at *; omega) | (simp only [Nat.reduceAdd, Int.cast_ofNat_Int, true_and, and_true]; omega) | kernel_rfl) ?_
                    | refine RegW.run ?_
                    | fail
                  all_goals first
                    | exact ⟨j + 1, ⟨by omega, fun i hi => by
                        by_cases e : i = j
                        · rw [e]; exact hnB
                        · exact hJ i (by omega)⟩, ⟨[], ⟨by kernel_rfl, by kernel_rfl, by kernel_rfl, by kernel_rfl, by kernel_rfl, by kernel_rfl, by kernel_rfl⟩, (by repeat' first | exact trivial | exact rfl | kernel_rfl | exact Dle.of_eq rfl | exact MLe.of_eq rfl | exact Dle.i (by omega) | exact Dle.i (by simp only [Int.toNat_natCast] at *; omega) | exact Dle.nil | exact Dle.rc Dle.nil | exact Option.some_ne_none _ | exact Or.inl rfl | exact Or.inr trivial | omega | (simp only [Int.toNat_natCast] at *; omega) | (intro _ _ _ _; exact Dle.of_eq rfl) | refine And.intro ?_ ?_)⟩, by first | omega | (dsimp only; omega)⟩
                    | trace_state
          · have hjl' : ¬ j < (F.items.getD ((k : Int)).toNat .zero).keys.length := hjl
            repeat' first
              | (refine facW_intro ?_; intro _)
              | refine Or.inl ?_
              | ((conv => whnf); first | (refine condW_dec ?_ ?_ <;> intro _ <;> try (exfalso; omega)) | refine condW_not ?_ | (refine condW_bool ?_ ?_ <;> intro _ <;> try (exfalso; omega)) | (refine nbC_t (fun _ => ?_) ?_) | (refine nbC_f ?_ (fun _ => ?_)))
              | refine And.intro (by first | omega | (simp only [Int.toNat_natCast] at *; omega) | (simp only [Nat.reduceAdd, Int.cast_ofNat_Int, true_and, and_true]; omega) | kernel_rfl) ?_
              | refine RegW.run ?_
              | fail
            all_goals first
              | exact ⟨k + 1, ⟨by omega, fun i hi => by
                  by_cases e : i = k
                  · rw [e]; rintro (h | ⟨j', h1, h2⟩)
                    · exact h hk6
                    · exact hJ j' (by omega) h2
                  · exact hK i (by omega)⟩, ⟨[], ⟨by kernel_rfl, by kernel_rfl, by kernel_rfl, by kernel_rfl, by kernel_rfl, by kernel_rfl, by kernel_rfl⟩, (by repeat' first | exact trivial | exact rfl | kernel_rfl | exact Dle.of_eq rfl | exact MLe.of_eq rfl | exact Dle.i (by omega) | exact Dle.i (by simp only [Int.toNat_natCast] at *; omega) | exact Dle.nil | exact Dle.rc Dle.nil | exact Option.some_ne_none _ | exact Or.inl rfl | exact Or.inr trivial | omega | (simp only [Int.toNat_natCast] at *; omega) | (intro _ _ _ _; exact Dle.of_eq rfl) | refine And.intro ?_ ?_)⟩, by first | omega | (dsimp only; omega)⟩
              | trace_state
        · have hr1 := hr1 (.inl hk6)
          have hk6' : ¬ (F.items.getD ((k : Int)).toNat .zero).kind = 6 := hk6
          clear hr
          subst hr1
          repeat' first
            | (refine facW_intro ?_; intro _)
            | refine Or.inl ?_
            | ((conv => whnf); first | (refine condW_dec ?_ ?_ <;> intro _ <;> try (exfalso; omega)) | refine condW_not ?_ | (refine condW_bool ?_ ?_ <;> intro _ <;> try (exfalso; omega)) | (refine nbC_t (fun _ => ?_) ?_) | (refine nbC_f ?_ (fun _ => ?_)))
            | refine And.intro (by first | omega | (simp only [Int.toNat_natCast] at *; omega) | (simp only [Nat.reduceAdd, Int.cast_ofNat_Int, true_and, and_true]; omega) | kernel_rfl) ?_
            | refine RegW.run ?_
            | fail
          all_goals first
            | (exfalso; exact hk6' (by assumption))
            | exact Dle.refl _ _
            | trace_state
      · have hr := bo_f hr (fun ⟨i, h1, h2⟩ => hK i (by omega) h2)
        subst hr
        repeat' first
          | (refine facW_intro ?_; intro _)
          | refine Or.inl ?_
          | ((conv => whnf); first | (refine condW_dec ?_ ?_ <;> intro _ <;> try (exfalso; omega)) | refine condW_not ?_ | (refine condW_bool ?_ ?_ <;> intro _ <;> try (exfalso; omega)) | (refine nbC_t (fun _ => ?_) ?_) | (refine nbC_f ?_ (fun _ => ?_)))
          | refine And.intro (by first | omega | (simp only [Int.toNat_natCast] at *; omega) | (simp only [Nat.reduceAdd, Int.cast_ofNat_Int, true_and, and_true]; omega) | kernel_rfl) ?_
          | refine RegW.run ?_
          | fail
        all_goals first
          | exact Dle.refl _ _
          | trace_state
end
end rs
end Go.Proofs.YtilfmjldcigagaaGreatDoor
