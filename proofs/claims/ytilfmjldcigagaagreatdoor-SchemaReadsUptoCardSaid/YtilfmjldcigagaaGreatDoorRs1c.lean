/-
  A schema's value, the program: kindOf, wrongNames, lacking.
-/
import Derived.Test.YtilfmjldcigagaaGreatDoorRs1
namespace Go.Proofs.YtilfmjldcigagaaGreatDoor
open Go.RowKit
set_option linter.unusedVariables false
set_option linter.unusedSimpArgs false
namespace rs
theorem keys_le {v : Vu} (hf : faultE v = 0) : v.keys.length ≤ v.items.length := by
  obtain ⟨_, h3⟩ := fault_keys hf
  by_cases h6 : v.kind = 6
  · exact Nat.le_of_eq (h3 h6)
  · have h4 := (head_ok (fault_head hf).1).1
    have : v.keys.length = 0 := by
      unfold unusedP at h4
      grind
    omega
section
variable (E : Env)
set_option maxRecDepth 100000
set_option maxHeartbeats 4000000 in
theorem kindOf_sp (E0 : Env) (hg : ∀ w, E0.G w → ∀ g, Rep view E0.MG w b0 (namesGv g) (.pointer (some ⟨g, 0, none⟩))) (hE : E = nEnv E0 hg) (s : ByteArray) : Sp (cx Tryz.prog mixed tyT_ok E) 57 [dS s] (.tup [i64 (kindV s), dB (known s)]) := by
  unfold kindV known nameI
  subst hE
  by_cases ha : s = (⟨#[97, 110, 121]⟩ : ByteArray)
  · rw [if_pos ha, decide_eq_true ha, Bool.true_or]
    refine Sp.body Tryz.func57 (by kernel_rfl) rfl (by kernel_rfl) (by kernel_rfl) (by kernel_rfl) ?_
    repeat' first
      | (refine facW_intro ?_; intro _)
      | refine Or.inl ?_
      | ((conv => whnf); first | (refine condW_dec ?_ ?_ <;> intro _ <;> try (exfalso; omega)) | refine condW_not ?_ | (refine condW_bool ?_ ?_ <;> intro _ <;> try (exfalso; omega)) | (refine nbC_t (fun _ => ?_) ?_) | (refine nbC_f ?_ (fun _ => ?_)))
      | refine And.intro (by first | omega | (simp only [Int.toNat_natCast] at *; omega) | (simp only [Nat.reduceAdd, Int.cast_ofNat_Int, true_and, and_true]; omega) | kernel_rfl) ?_
      | refine RegW.run ?_
      | fail
    all_goals first
      | exact Dle.refl _ _
      | (exfalso; exact absurd ha (by assumption))
      | trace_state
  · rw [if_neg ha, decide_eq_false ha, Bool.false_or]
    obtain ⟨q, hq⟩ : ∃ q, q = idxS names s 0 := ⟨_, rfl⟩
    rw [← hq]
    refine Sp.body Tryz.func57 (by kernel_rfl) rfl (by kernel_rfl) (by kernel_rfl) (by kernel_rfl) ?_
    repeat' first
      | (refine facW_intro ?_; intro _)
      | refine Or.inl ?_
      | ((conv => whnf); first | (refine condW_dec ?_ ?_ <;> intro _ <;> try (exfalso; omega)) | refine condW_not ?_ | (refine condW_bool ?_ ?_ <;> intro _ <;> try (exfalso; omega)) | (refine nbC_t (fun _ => ?_) ?_) | (refine nbC_f ?_ (fun _ => ?_)))
      | refine And.intro (by first | omega | (simp only [Int.toNat_natCast] at *; omega) | (simp only [Nat.reduceAdd, Int.cast_ofNat_Int, true_and, and_true]; omega) | kernel_rfl) ?_
      | refine RegW.run ?_
      | fail
    all_goals try (exfalso; exact ha (by assumption))
    refine ⟨Nat, fun k => [(10, i64 k)], fun k => [], [], fun k => [], fun k => k ≤ names.length ∧ q = idxS names s k, fun k => names.length - k, ⟨0, ⟨by omega, hq⟩, ⟨[], ⟨by kernel_rfl, by kernel_rfl, by kernel_rfl, by kernel_rfl, by kernel_rfl, by kernel_rfl, by kernel_rfl⟩, (by repeat' first | exact trivial | exact rfl | kernel_rfl | exact Dle.of_eq rfl | exact MLe.of_eq rfl | exact Dle.i (by omega) | exact Dle.i (by simp only [Int.toNat_natCast] at *; omega) | exact Dle.nil | exact Dle.rc Dle.nil | exact Option.some_ne_none _ | exact Or.inl rfl | exact Or.inr trivial | omega | (simp only [Int.toNat_natCast] at *; omega) | (intro _ _ _ _; exact Dle.of_eq rfl) | refine And.intro ?_ ?_)⟩⟩, fun k hk => ?_⟩
    obtain ⟨hk, hK⟩ := hk
    by_cases hlt : k < names.length
    · by_cases hx : s = names.getD k ⟨#[]⟩
      · rw [idxS_at hlt hx] at hK
        subst hK
        rw [show (if (0 : Int) ≤ (k : Int) then (k : Int) else 0) = (k : Int) from if_pos (by omega), show decide ((0 : Int) ≤ (k : Int)) = true from decide_eq_true (by omega)]
        have hx' : names.getD ((k : Int)).toNat ⟨#[]⟩ = s := hx.symm
        repeat' first
          | (refine facW_intro ?_; intro _)
          | refine Or.inl ?_
          | ((conv => whnf); first | (refine condW_dec ?_ ?_ <;> intro _ <;> try (exfalso; omega)) | refine condW_not ?_ | (refine condW_bool ?_ ?_ <;> intro _ <;> try (exfalso; omega)) | (refine nbC_t (fun _ => ?_) ?_) | (refine nbC_f ?_ (fun _ => ?_)))
          | refine And.intro (by first | omega | (simp only [Int.toNat_natCast] at *; omega) | (simp only [Nat.reduceAdd, Int.cast_ofNat_Int, true_and, and_true]; omega) | kernel_rfl) ?_
          | refine RegW.run ?_
          | fail
        all_goals first
          | exact Dle.refl _ _
          | (exfalso; rename_i h; exact h hx')
          | trace_state
      · rw [idxS_next hlt hx] at hK
        have hx' : ¬ names.getD ((k : Int)).toNat ⟨#[]⟩ = s := fun h => hx h.symm
        repeat' first
          | (refine facW_intro ?_; intro _)
          | refine Or.inl ?_
          | ((conv => whnf); first | (refine condW_dec ?_ ?_ <;> intro _ <;> try (exfalso; omega)) | refine condW_not ?_ | (refine condW_bool ?_ ?_ <;> intro _ <;> try (exfalso; omega)) | (refine nbC_t (fun _ => ?_) ?_) | (refine nbC_f ?_ (fun _ => ?_)))
          | refine And.intro (by first | omega | (simp only [Int.toNat_natCast] at *; omega) | (simp only [Nat.reduceAdd, Int.cast_ofNat_Int, true_and, and_true]; omega) | kernel_rfl) ?_
          | refine RegW.run ?_
          | fail
        all_goals first
          | (exfalso; exact hx' (by assumption))
          | exact ⟨k + 1, ⟨by omega, hK⟩, ⟨[], ⟨by kernel_rfl, by kernel_rfl, by kernel_rfl, by kernel_rfl, by kernel_rfl, by kernel_rfl, by kernel_rfl⟩, (by repeat' first | exact trivial | exact rfl | kernel_rfl | exact Dle.of_eq rfl | exact MLe.of_eq rfl | exact Dle.i (by omega) | exact Dle.i (by simp only [Int.toNat_natCast] at *; omega) | exact Dle.nil | exact Dle.rc Dle.nil | exact Option.some_ne_none _ | exact Or.inl rfl | exact Or.inr trivial | omega | (simp only [Int.toNat_natCast] at *; omega) | (intro _ _ _ _; exact Dle.of_eq rfl) | refine And.intro ?_ ?_)⟩, by first | omega | (dsimp only; omega)⟩
          | trace_state
    · rw [idxS_end hlt] at hK
      subst hK
      rw [show (if (0 : Int) ≤ -1 then (-1 : Int) else 0) = 0 from if_neg (by omega), show decide ((0 : Int) ≤ -1) = false from decide_eq_false (by omega)]
      repeat' first
        | (refine facW_intro ?_; intro _)
        | refine Or.inl ?_
        | ((conv => whnf); first | (refine condW_dec ?_ ?_ <;> intro _ <;> try (exfalso; omega)) | refine condW_not ?_ | (refine condW_bool ?_ ?_ <;> intro _ <;> try (exfalso; omega)) | (refine nbC_t (fun _ => ?_) ?_) | (refine nbC_f ?_ (fun _ => ?_)))
        | refine And.intro (by first | omega | (simp only [Int.toNat_natCast] at *; omega) | (simp only [Nat.reduceAdd, Int.cast_ofNat_Int, true_and, and_true]; omega) | kernel_rfl) ?_
        | refine RegW.run ?_
        | fail
      all_goals first
        | exact Dle.refl _ _
        | trace_state
set_option maxHeartbeats 4000000 in
theorem lacking_sp (t : Vu) (hf : faultE t = 0) (hw : t.wt ≤ 100000000) : Sp (cx Tryz.prog mixed tyT_ok E) 14 [encV t] (dB (lackB t)) := by
  have hkw := keys_le_wt t
  have h1 := item_sp E t (⟨#[114, 111, 117, 116, 101]⟩ : ByteArray) hf (by omega)
  have h2 := item_sp E t (⟨#[107, 105, 110, 100]⟩ : ByteArray) hf (by omega)
  have h3 := item_sp E t (⟨#[109, 105, 110]⟩ : ByteArray) hf (by omega)
  have h4 := item_sp E t (⟨#[109, 97, 120]⟩ : ByteArray) hf (by omega)
  unfold lackB
  generalize hasK t (⟨#[114, 111, 117, 116, 101]⟩ : ByteArray) = b1 at h1
  generalize hasK t (⟨#[107, 105, 110, 100]⟩ : ByteArray) = b2 at h2
  generalize hasK t (⟨#[109, 105, 110]⟩ : ByteArray) = b3 at h3
  generalize hasK t (⟨#[109, 97, 120]⟩ : ByteArray) = b4 at h4
  cases b1 <;> cases b2 <;> cases b3 <;> cases b4
  all_goals
    refine Sp.body Tryz.func14 (by kernel_rfl) rfl (by kernel_rfl) (by kernel_rfl) (by kernel_rfl) ?_
    repeat' first
      | (refine facW_intro ?_; intro _)
      | refine Or.inl ?_
      | ((conv => whnf); first | (refine condW_dec ?_ ?_ <;> intro _ <;> try (exfalso; omega)) | refine condW_not ?_ | (refine condW_bool ?_ ?_ <;> intro _ <;> try (exfalso; omega)) | (refine nbC_t (fun _ => ?_) ?_) | (refine nbC_f ?_ (fun _ => ?_)))
      | refine And.intro (by first | omega | (simp only [Int.toNat_natCast] at *; omega) | (simp only [Nat.reduceAdd, Int.cast_ofNat_Int, true_and, and_true]; omega) | kernel_rfl) ?_
      | refine RegW.run ?_
      | refine ⟨_, h1, ?_⟩
      | refine ⟨_, h2, ?_⟩
      | refine ⟨_, h3, ?_⟩
      | refine ⟨_, h4, ?_⟩
      | fail
    all_goals first
      | exact Dle.refl _ _
      | exact Dle.bo (by simp)
      | (exfalso; simp_all; done)
      | trace_state
set_option maxHeartbeats 8000000 in
theorem wrongNames_sp (E0 : Env) (hg : ∀ w, E0.G w → ∀ g, Rep view E0.MG w b0 (namesGv g) (.pointer (some ⟨g, 0, none⟩))) (hE : E = nEnv E0 hg) (v : Vu) (hf : faultE v = 0) (hw : v.wt ≤ 100000000) (r : Bool) (hr : r = true ↔ wrongN v) : Sp (cx Tryz.prog mixed tyT_ok E) 12 [encV v] (dB r) := by
  have hkw := keys_le_wt v
  have h2 := item_sp E v (⟨#[102, 105, 101, 108, 100, 115]⟩ : ByteArray) hf (by omega)
  have hF := item_fault hf (⟨#[102, 105, 101, 108, 100, 115]⟩ : ByteArray)
  have hk0 := fun s => kindOf_sp E E0 hg hE s
  unfold wrongN oddTop flds at hr
  generalize itemK v (⟨#[102, 105, 101, 108, 100, 115]⟩ : ByteArray) = F at hr h2 hF
  generalize hasK v (⟨#[102, 105, 101, 108, 100, 115]⟩ : ByteArray) = bF at h2
  refine Sp.body Tryz.func12 (by kernel_rfl) rfl (by kernel_rfl) (by kernel_rfl) (by kernel_rfl) ?_
  repeat' first
    | (refine facW_intro ?_; intro _)
    | refine Or.inl ?_
    | ((conv => whnf); first | (refine condW_dec ?_ ?_ <;> intro _ <;> try (exfalso; omega)) | refine condW_not ?_ | (refine condW_bool ?_ ?_ <;> intro _ <;> try (exfalso; omega)) | (refine nbC_t (fun _ => ?_) ?_) | (refine nbC_f ?_ (fun _ => ?_)))
    | refine And.intro (by first | omega | (simp only [Int.toNat_natCast] at *; omega) | (simp only [Nat.reduceAdd, Int.cast_ofNat_Int, true_and, and_true]; omega) | kernel_rfl) ?_
    | refine RegW.run ?_
    | fail
  refine ⟨Nat, fun k => [(16, i64 k)], fun k => [], [1], fun k => [], fun k => k ≤ v.keys.length ∧ ∀ i, i < k → ¬ (v.keys.getD i ⟨#[]⟩ ≠ (⟨#[102, 105, 101, 108, 100, 115]⟩ : ByteArray) ∧ v.keys.getD i ⟨#[]⟩ ≠ (⟨#[115, 116, 114, 105, 99, 116]⟩ : ByteArray)), fun k => v.keys.length - k, ⟨0, ⟨by omega, fun i hi => by omega⟩, ⟨[], ⟨by kernel_rfl, by kernel_rfl, by kernel_rfl, by kernel_rfl, by kernel_rfl, by kernel_rfl, by kernel_rfl⟩, (by repeat' first | exact trivial | exact rfl | kernel_rfl | exact Dle.of_eq rfl | exact MLe.of_eq rfl | exact Dle.i (by omega) | exact Dle.i (by simp only [Int.toNat_natCast] at *; omega) | exact Dle.nil | exact Dle.rc Dle.nil | exact Option.some_ne_none _ | exact Or.inl rfl | exact Or.inr trivial | omega | (simp only [Int.toNat_natCast] at *; omega) | (intro _ _ _ _; exact Dle.of_eq rfl) | refine And.intro ?_ ?_)⟩⟩, fun k hk => ?_⟩
  obtain ⟨hk, hK⟩ := hk
  by_cases hlt : k < v.keys.length
  · have hr1 := fun h => bo_t hr (.inl ⟨k, hlt, h⟩)
    by_cases ho : v.keys.getD k ⟨#[]⟩ ≠ (⟨#[102, 105, 101, 108, 100, 115]⟩ : ByteArray) ∧ v.keys.getD k ⟨#[]⟩ ≠ (⟨#[115, 116, 114, 105, 99, 116]⟩ : ByteArray)
    · have hr1 := hr1 ho
      clear hr
      subst hr1
      obtain ⟨ho1, ho2⟩ := ho
      have ho1' : ¬ v.keys.getD ((k : Int)).toNat ⟨#[]⟩ = (⟨#[102, 105, 101, 108, 100, 115]⟩ : ByteArray) := ho1
      have ho2' : ¬ v.keys.getD ((k : Int)).toNat ⟨#[]⟩ = (⟨#[115, 116, 114, 105, 99, 116]⟩ : ByteArray) := ho2
      repeat' first
        | (refine facW_intro ?_; intro _)
        | refine Or.inl ?_
        | ((conv => whnf); first | (refine condW_dec ?_ ?_ <;> intro _ <;> try (exfalso; omega)) | refine condW_not ?_ | (refine condW_bool ?_ ?_ <;> intro _ <;> try (exfalso; omega)) | (refine nbC_t (fun _ => ?_) ?_) | (refine nbC_f ?_ (fun _ => ?_)))
        | refine And.intro (by first | omega | (simp only [Int.toNat_natCast] at *; omega) | (simp only [Nat.reduceAdd, Int.cast_ofNat_Int, true_and, and_true]; omega) | kernel_rfl) ?_
        | refine RegW.run ?_
        | fail
      all_goals first
        | exact Dle.refl _ _
        | (exfalso; exact ho1' (by assumption))
        | (exfalso; exact ho2' (by assumption))
        | trace_state
    · have ho' : ¬ v.keys.getD ((k : Int)).toNat ⟨#[]⟩ = (⟨#[102, 105, 101, 108, 100, 115]⟩ : ByteArray) → v.keys.getD ((k : Int)).toNat ⟨#[]⟩ = (⟨#[115, 116, 114, 105, 99, 116]⟩ : ByteArray) := fun h => Classical.byContradiction fun g => ho ⟨h, g⟩
      repeat' first
        | (refine facW_intro ?_; intro _)
        | refine Or.inl ?_
        | ((conv => whnf); first | (refine condW_dec ?_ ?_ <;> intro _ <;> try (exfalso; omega)) | refine condW_not ?_ | (refine condW_bool ?_ ?_ <;> intro _ <;> try (exfalso; omega)) | (refine nbC_t (fun _ => ?_) ?_) | (refine nbC_f ?_ (fun _ => ?_)))
        | refine And.intro (by first | omega | (simp only [Int.toNat_natCast] at *; omega) | (simp only [Nat.reduceAdd, Int.cast_ofNat_Int, true_and, and_true]; omega) | kernel_rfl) ?_
        | refine RegW.run ?_
        | fail
      all_goals first
        | exact ⟨k + 1, ⟨by omega, fun i hi => by
            by_cases e : i = k
            · rw [e]; exact ho
            · exact hK i (by omega)⟩, ⟨[], ⟨by kernel_rfl, by kernel_rfl, by kernel_rfl, by kernel_rfl, by kernel_rfl, by kernel_rfl, by kernel_rfl⟩, (by repeat' first | exact trivial | exact rfl | kernel_rfl | exact Dle.of_eq rfl | exact MLe.of_eq rfl | exact Dle.i (by omega) | exact Dle.i (by simp only [Int.toNat_natCast] at *; omega) | exact Dle.nil | exact Dle.rc Dle.nil | exact Option.some_ne_none _ | exact Or.inl rfl | exact Or.inr trivial | omega | (simp only [Int.toNat_natCast] at *; omega) | (intro _ _ _ _; exact Dle.of_eq rfl) | refine And.intro ?_ ?_)⟩, by first | omega | (dsimp only; omega)⟩
        | (exfalso; rename_i g h; exact h (ho' g))
        | trace_state
  · have hr : r = true ↔ ∃ i, i < F.items.length ∧ oddTab (F.items.getD i .zero) := by
      rw [hr]
      constructor
      · rintro (⟨i, h1, h⟩ | h)
        · exact absurd h (hK i (by omega))
        · exact h
      · exact fun h => .inr h
    repeat' first
      | (refine facW_intro ?_; intro _)
      | refine Or.inl ?_
      | ((conv => whnf); first | (refine condW_dec ?_ ?_ <;> intro _ <;> try (exfalso; omega)) | refine condW_not ?_ | (refine condW_bool ?_ ?_ <;> intro _ <;> try (exfalso; omega)) | (refine nbC_t (fun _ => ?_) ?_) | (refine nbC_f ?_ (fun _ => ?_)))
      | refine And.intro (by first | omega | (simp only [Int.toNat_natCast] at *; omega) | (simp only [Nat.reduceAdd, Int.cast_ofNat_Int, true_and, and_true]; omega) | kernel_rfl) ?_
      | refine RegW.run ?_
      | refine ⟨_, h2, ?_⟩
      | fail
    refine ⟨Nat, fun n => [(35, i64 n)], fun n => [], [1, 5], fun n => [], fun n => n ≤ F.items.length ∧ ∀ i, i < n → ¬ oddTab (F.items.getD i .zero), fun n => F.items.length - n, ⟨0, ⟨by omega, fun i hi => by omega⟩, ⟨[], ⟨by kernel_rfl, by kernel_rfl, by kernel_rfl, by kernel_rfl, by kernel_rfl, by kernel_rfl, by kernel_rfl⟩, (by repeat' first | exact trivial | exact rfl | kernel_rfl | exact Dle.of_eq rfl | exact MLe.of_eq rfl | exact Dle.i (by omega) | exact Dle.i (by simp only [Int.toNat_natCast] at *; omega) | exact Dle.nil | exact Dle.rc Dle.nil | exact Option.some_ne_none _ | exact Or.inl rfl | exact Or.inr trivial | omega | (simp only [Int.toNat_natCast] at *; omega) | (intro _ _ _ _; exact Dle.of_eq rfl) | refine And.intro ?_ ?_)⟩⟩, fun n hn => ?_⟩
    obtain ⟨hn, hN⟩ := hn
    by_cases hnl : n < F.items.length
    · have hT := fault_mem hF hnl
      have hr1 : oddTab (F.items.getD n .zero) → true = r := fun h => bo_t hr ⟨n, hnl, h⟩
      have hk2 : (F.items.getD ((n : Int)).toNat .zero).keys.length ≤ (F.items.getD ((n : Int)).toNat .zero).items.length := keys_le hT
      repeat' first
        | (refine facW_intro ?_; intro _)
        | refine Or.inl ?_
        | ((conv => whnf); first | (refine condW_dec ?_ ?_ <;> intro _ <;> try (exfalso; omega)) | refine condW_not ?_ | (refine condW_bool ?_ ?_ <;> intro _ <;> try (exfalso; omega)) | (refine nbC_t (fun _ => ?_) ?_) | (refine nbC_f ?_ (fun _ => ?_)))
        | refine And.intro (by first | omega | (simp only [Int.toNat_natCast] at *; omega) | (simp only [Nat.reduceAdd, Int.cast_ofNat_Int, true_and, and_true]; omega) | kernel_rfl) ?_
        | refine RegW.run ?_
        | fail
      refine ⟨Nat, fun j => [(42, i64 j)], fun j => [], [1, 5, 8], fun j => [], fun j => j ≤ (F.items.getD n .zero).keys.length ∧ ∀ i, i < j → ¬ oddIt ((F.items.getD n .zero).keys.getD i ⟨#[]⟩) ((F.items.getD n .zero).items.getD i .zero), fun j => (F.items.getD n .zero).keys.length - j, ⟨0, ⟨by omega, fun i hi => by omega⟩, ⟨[], ⟨by kernel_rfl, by kernel_rfl, by kernel_rfl, by kernel_rfl, by kernel_rfl, by kernel_rfl, by kernel_rfl⟩, (by repeat' first | exact trivial | exact rfl | kernel_rfl | exact Dle.of_eq rfl | exact MLe.of_eq rfl | exact Dle.i (by omega) | exact Dle.i (by simp only [Int.toNat_natCast] at *; omega) | exact Dle.nil | exact Dle.rc Dle.nil | exact Option.some_ne_none _ | exact Or.inl rfl | exact Or.inr trivial | omega | (simp only [Int.toNat_natCast] at *; omega) | (intro _ _ _ _; exact Dle.of_eq rfl) | refine And.intro ?_ ?_)⟩⟩, fun j hj => ?_⟩
      obtain ⟨hj, hJ⟩ := hj
      by_cases hjl : j < (F.items.getD n .zero).keys.length
      · have hjl' : j < (F.items.getD ((n : Int)).toNat .zero).keys.length := hjl
        have h3 := fieldKind_sp E ((F.items.getD n .zero).keys.getD j ⟨#[]⟩)
        have h4 := hk0 ((F.items.getD n .zero).items.getD j .zero).text
        have hr2 : oddIt ((F.items.getD n .zero).keys.getD j ⟨#[]⟩) ((F.items.getD n .zero).items.getD j .zero) → true = r := fun h => hr1 ⟨j, hjl, h⟩
        have hbd : oddIt ((F.items.getD n .zero).keys.getD j ⟨#[]⟩) ((F.items.getD n .zero).items.getD j .zero) → (fk ((F.items.getD n .zero).keys.getD j ⟨#[]⟩) = -1 ∧ (F.items.getD n .zero).keys.getD j ⟨#[]⟩ ≠ (⟨#[100, 101, 102, 97, 117, 108, 116]⟩ : ByteArray)) ∨ ((F.items.getD n .zero).keys.getD j ⟨#[]⟩ = (⟨#[107, 105, 110, 100]⟩ : ByteArray) ∧ known ((F.items.getD n .zero).items.getD j .zero).text = false) := fun h => h
        unfold oddIt at hr2
        generalize fk ((F.items.getD n .zero).keys.getD j ⟨#[]⟩) = q at h3 hr2 hbd
        generalize known ((F.items.getD n .zero).items.getD j .zero).text = kn at h4 hr2 hbd
        generalize kindV ((F.items.getD n .zero).items.getD j .zero).text = kv at h4
        repeat' first
          | (refine facW_intro ?_; intro _)
          | refine Or.inl ?_
          | ((conv => whnf); first | (refine condW_dec ?_ ?_ <;> intro _ <;> try (exfalso; omega)) | refine condW_not ?_ | (refine condW_bool ?_ ?_ <;> intro _ <;> try (exfalso; omega)) | (refine nbC_t (fun _ => ?_) ?_) | (refine nbC_f ?_ (fun _ => ?_)))
          | refine And.intro (by first | omega | (simp only [Int.toNat_natCast] at *; omega) | (simp only [Nat.reduceAdd, Int.cast_ofNat_Int, true_and, and_true]; omega) | kernel_rfl) ?_
          | refine RegW.run ?_
          | refine ⟨_, h3, ?_⟩
          | refine ⟨_, h4, ?_⟩
          | fail
        all_goals first
          | (have hr3 := hr2 (.inl ⟨by assumption, by assumption⟩)
             exact Dle.bo hr3)
          | (have hr3 := hr2 (.inr ⟨by assumption, by assumption⟩)
             exact Dle.bo hr3)
          | exact ⟨j + 1, ⟨by omega, fun i hi => by
              by_cases e : i = j
              · rw [e]
                intro h
                rcases hbd h with ⟨g1, g2⟩ | ⟨g1, g2⟩
                · first | omega | exact g2 (by assumption)
                · first | (rename_i h9; exact h9 g1) | (rename_i h9; rw [g2] at h9; cases h9)
              · exact hJ i (by omega)⟩, ⟨[], ⟨by kernel_rfl, by kernel_rfl, by kernel_rfl, by kernel_rfl, by kernel_rfl, by kernel_rfl, by kernel_rfl⟩, (by repeat' first | exact trivial | exact rfl | kernel_rfl | exact Dle.of_eq rfl | exact MLe.of_eq rfl | exact Dle.i (by omega) | exact Dle.i (by simp only [Int.toNat_natCast] at *; omega) | exact Dle.nil | exact Dle.rc Dle.nil | exact Option.some_ne_none _ | exact Or.inl rfl | exact Or.inr trivial | omega | (simp only [Int.toNat_natCast] at *; omega) | (intro _ _ _ _; exact Dle.of_eq rfl) | refine And.intro ?_ ?_)⟩, by first | omega | (dsimp only; omega)⟩
          | trace_state
      · have hjl' : ¬ j < (F.items.getD ((n : Int)).toNat .zero).keys.length := hjl
        repeat' first
          | (refine facW_intro ?_; intro _)
          | refine Or.inl ?_
          | ((conv => whnf); first | (refine condW_dec ?_ ?_ <;> intro _ <;> try (exfalso; omega)) | refine condW_not ?_ | (refine condW_bool ?_ ?_ <;> intro _ <;> try (exfalso; omega)) | (refine nbC_t (fun _ => ?_) ?_) | (refine nbC_f ?_ (fun _ => ?_)))
          | refine And.intro (by first | omega | (simp only [Int.toNat_natCast] at *; omega) | (simp only [Nat.reduceAdd, Int.cast_ofNat_Int, true_and, and_true]; omega) | kernel_rfl) ?_
          | refine RegW.run ?_
          | fail
        all_goals first
          | exact ⟨n + 1, ⟨by omega, fun i hi => by
              by_cases e : i = n
              · rw [e]; rintro ⟨j', h1, h2⟩
                exact hJ j' (by omega) h2
              · exact hN i (by omega)⟩, ⟨[], ⟨by kernel_rfl, by kernel_rfl, by kernel_rfl, by kernel_rfl, by kernel_rfl, by kernel_rfl, by kernel_rfl⟩, (by repeat' first | exact trivial | exact rfl | kernel_rfl | exact Dle.of_eq rfl | exact MLe.of_eq rfl | exact Dle.i (by omega) | exact Dle.i (by simp only [Int.toNat_natCast] at *; omega) | exact Dle.nil | exact Dle.rc Dle.nil | exact Option.some_ne_none _ | exact Or.inl rfl | exact Or.inr trivial | omega | (simp only [Int.toNat_natCast] at *; omega) | (intro _ _ _ _; exact Dle.of_eq rfl) | refine And.intro ?_ ?_)⟩, by first | omega | (dsimp only; omega)⟩
          | trace_state
    · have hr := bo_f hr (fun ⟨i, h1, h2⟩ => hN i (by omega) h2)
      subst hr
      repeat' first
        | (refine facW_intro ?_; intro _)
        | refine Or.inl ?_
        | ((conv => whnf); first | (refine condW_dec ?_ ?_ <;> intro _ <;> try (exfalso; omega)) | refine condW_not ?_ | (refine condW_bool ?_ ?_ <;> intro _ <;> try (exfalso; omega)) | (refine nbC_t (fun _ => ?_) ?_) | (refine nbC_f ?_ (fun _ => ?_)))
        | refine And.intro (by first | omega | (simp only [Int.toNat_natCast] at *; omega) | (simp only [Nat.reduceAdd, Int.cast_ofNat_Int, true_and, and_true]; omega) | kernel_rfl) ?_
        | refine RegW.run ?_
        | fail
      all_goals first
        | exact Dle.refl _ _
        | trace_state
end
end rs
end Go.Proofs.YtilfmjldcigagaaGreatDoor
