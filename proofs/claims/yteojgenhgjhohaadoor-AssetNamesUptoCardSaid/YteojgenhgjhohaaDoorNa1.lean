/-
  asset.digitsAt, Plain.
-/
import Derived.Test.YteojgenhgjhohaaDoorNa0
import Derived.Test.YteojgenhgjhohaaDoorShelf
namespace Go.Proofs.YteojgenhgjhohaaDoor
open Go.RowKit
set_option linter.unusedVariables false
set_option linter.unusedSimpArgs false
namespace na
open pl
theorem bAt_L (s : ByteArray) (i : Nat) : bAt s i = s.data.toList.getD i 0 := rfl
abbrev hexS : ByteArray := (⟨#[48, 49, 50, 51, 52, 53, 54, 55, 56, 57, 97, 98, 99, 100, 101, 102]⟩ : ByteArray)
theorem hex_idx : ∀ n : Fin 256, decide (Lib.indexByte hexS.data.toList (UInt8.ofNat n.val) < 0) = !hexC (UInt8.ofNat n.val) := by decide +kernel
theorem hex_neg (c : UInt8) : Lib.indexByte hexS.data.toList c < 0 ↔ hexC c = false := by
  have h := hex_idx ⟨c.toNat, c.toNat_lt⟩
  have e : UInt8.ofNat c.toNat = c := UInt8.ofNat_toNat
  simp only [e] at h
  constructor
  · intro g
    rw [decide_eq_true g] at h
    simpa using h.symm
  · intro g
    rw [g] at h
    exact of_decide_eq_true h
section
variable (E : Env)
set_option maxRecDepth 100000
theorem idxB_sp (s : ByteArray) (c : UInt8) : Sp (cx Tryd.prog mixed tyT_ok E) 32 [dS s, .v (.int .u8 (c.toNat : Int))] (i64 (Lib.indexByte s.data.toList c)) :=
  Sp.of_v (vs := [.string s, .int .u8 (c.toNat : Int)]) ⟨_, _, Tryd.func32, by kernel_rfl, rfl⟩ rfl (fun w _ => (Tryd.strings_IndexByte s (c.toNat : Int) w).mono fun e w' ⟨he, hb⟩ => ⟨by rw [he]; simp, hb ▸ Below.refl _ _⟩)
theorem idxHex_sp (c : UInt8) : Sp (cx Tryd.prog mixed tyT_ok E) 32 [dS hexS, .v (.int .u8 (c.toNat : Int))] (i64 (Lib.indexByte hexS.data.toList c)) := idxB_sp E hexS c
set_option maxHeartbeats 4000000 in
theorem digitsAt_sp (s : ByteArray) (hs : s.size ≤ 1000000000000000) (k : Int) (h0 : -1000 ≤ k) (hk : k ≤ 1000000000000000) (b : Bool) (hb : b = true ↔ digP s.data.toList k) : Sp (cx Tryd.prog mixed tyT_ok E) 17 [dS s, i64 k] (dB b) := by
  have hlen : s.data.toList.length = s.size := Array.length_toList
  unfold digP at hb
  rw [hlen] at hb
  by_cases h1 : k < 2
  · have hf : b = false := by
      cases b
      · rfl
      · have := (hb.1 rfl).1; omega
    rw [hf]
    refine Sp.body Tryd.func17 (by kernel_rfl) rfl (by kernel_rfl) (by kernel_rfl) (by kernel_rfl) ?_
    repeat' first
      | (refine codeW_cond rfl ?_; first | (refine condW_dec ?_ ?_ <;> intro _ <;> try (exfalso; omega)) | refine condW_not ?_ | (refine condW_bool ?_ ?_ <;> intro _ <;> try (exfalso; omega)))
      | (refine facW_intro ?_; intro _)
      | refine Or.inl ?_
      | ((conv => whnf); first | (refine condW_dec ?_ ?_ <;> intro _ <;> try (exfalso; omega)) | refine condW_not ?_ | (refine condW_bool ?_ ?_ <;> intro _ <;> try (exfalso; omega)) | (refine nbC_t (fun _ => ?_) ?_) | (refine nbC_f ?_ (fun _ => ?_)))
      | refine And.intro (by first | omega | (simp only [Int.toNat_natCast] at *; omega) | (simp only [Nat.reduceAdd, Int.cast_ofNat_Int, true_and, and_true]; omega)  | kernel_rfl) ?_
      | refine RegW.run ?_
      | fail
    all_goals first
      | (exfalso; omega)
      | exact Dle.refl _ _
      | trace_state
  · obtain ⟨m, rfl⟩ : ∃ m : Nat, k = m := ⟨k.toNat, by omega⟩
    rw [Int.toNat_natCast] at hb
    by_cases h2 : (m : Int) + 12 ≤ s.size
    · have em : (((m : Nat) : Int) - 1).toNat = m - 1 := by omega
      by_cases h3 : (bAt s (((m : Nat) : Int) - 1).toNat).toNat = 46
      · have h3' : s.data.toList.getD (m - 1) 0 = 46 := by
          rw [← bAt_L, ← em]
          exact UInt8.toNat_inj.1 h3
        have hb : b = true ↔ ∀ i, i < 12 → hexC (bAt s (m + i)) = true := by
          rw [hb]
          constructor
          · rintro ⟨_, _, _, h⟩ i hi
            rw [bAt_L]
            exact h i hi
          · intro h
            exact ⟨by omega, h2, h3', fun i hi => by rw [← bAt_L]; exact h i hi⟩
        refine Sp.body Tryd.func17 (by kernel_rfl) rfl (by kernel_rfl) (by kernel_rfl) (by kernel_rfl) ?_
        repeat' first
          | (refine codeW_cond rfl ?_; first | (refine condW_dec ?_ ?_ <;> intro _ <;> try (exfalso; omega)) | refine condW_not ?_ | (refine condW_bool ?_ ?_ <;> intro _ <;> try (exfalso; omega)))
          | (refine facW_intro ?_; intro _)
          | refine Or.inl ?_
          | ((conv => whnf); first | (refine condW_dec ?_ ?_ <;> intro _ <;> try (exfalso; omega)) | refine condW_not ?_ | (refine condW_bool ?_ ?_ <;> intro _ <;> try (exfalso; omega)) | (refine nbC_t (fun _ => ?_) ?_) | (refine nbC_f ?_ (fun _ => ?_)))
          | refine And.intro (by first | omega | (simp only [Int.toNat_natCast] at *; omega) | (simp only [Nat.reduceAdd, Int.cast_ofNat_Int, true_and, and_true]; omega)  | kernel_rfl) ?_
          | refine RegW.run ?_
          | fail
        all_goals try (exfalso; omega)
        refine ⟨Nat, fun i => [(5, i64 (m + i))], fun i => [], [], fun i => [], fun i => i ≤ 12 ∧ ∀ j, j < i → hexC (bAt s (m + j)) = true, fun i => 12 - i, ⟨0, ⟨Nat.zero_le _, fun j hj => absurd hj (Nat.not_lt_zero j)⟩, ⟨[], ⟨by kernel_rfl, by kernel_rfl, by kernel_rfl, by kernel_rfl, by kernel_rfl, by kernel_rfl, by kernel_rfl⟩, (by repeat' first | (exact Dle.i (by omega)) | exact trivial | exact rfl | kernel_rfl | exact Dle.of_eq rfl | exact MLe.of_eq rfl | exact Dle.i (by omega) | exact Dle.i (by simp only [Int.toNat_natCast] at *; omega) | exact Dle.nil | exact Dle.rc Dle.nil | exact Option.some_ne_none _ | exact Or.inl rfl | exact Or.inr trivial | omega | (simp only [Int.toNat_natCast] at *; omega) | (intro _ _ _ _; exact Dle.of_eq rfl) | refine And.intro ?_ ?_)⟩⟩, fun i hi => ?_⟩
        obtain ⟨i1, i2⟩ := hi
        by_cases hlt : i < 12
        · have ei : ((m : Int) + i).toNat = m + i := by omega
          have hx := idxHex_sp E (bAt s ((m : Int) + i).toNat)
          have hn := hex_neg (bAt s ((m : Int) + i).toNat)
          obtain ⟨z, hz⟩ : ∃ z, z = Lib.indexByte hexS.data.toList (bAt s ((m : Int) + i).toNat) := ⟨_, rfl⟩
          rw [← hz] at hx hn
          rw [ei] at hn
          cases hc : hexC (bAt s (m + i))
          · have hz0 : z < 0 := hn.2 hc
            have hf : b = false := by
              cases b
              · rfl
              · have := hb.1 rfl i hlt
                rw [hc] at this
                cases this
            rw [hf]
            repeat' first
              | (refine codeW_cond rfl ?_; first | (refine condW_dec ?_ ?_ <;> intro _ <;> try (exfalso; omega)) | refine condW_not ?_ | (refine condW_bool ?_ ?_ <;> intro _ <;> try (exfalso; omega)))
              | (refine facW_intro ?_; intro _)
              | refine Or.inl ?_
              | ((conv => whnf); first | (refine condW_dec ?_ ?_ <;> intro _ <;> try (exfalso; omega)) | refine condW_not ?_ | (refine condW_bool ?_ ?_ <;> intro _ <;> try (exfalso; omega)) | (refine nbC_t (fun _ => ?_) ?_) | (refine nbC_f ?_ (fun _ => ?_)))
              | refine And.intro (by first | omega | (simp only [Int.toNat_natCast] at *; omega) | (simp only [Nat.reduceAdd, Int.cast_ofNat_Int, true_and, and_true]; omega)  | kernel_rfl) ?_
              | refine RegW.run ?_
              | refine ⟨_, hx, ?_⟩
              | fail
            all_goals first
              | (exfalso; omega)
              | exact Dle.refl _ _
              | trace_state
          · have hz0 : ¬ z < 0 := fun h => by
              have := hn.1 h
              rw [hc] at this
              cases this
            repeat' first
              | (refine codeW_cond rfl ?_; first | (refine condW_dec ?_ ?_ <;> intro _ <;> try (exfalso; omega)) | refine condW_not ?_ | (refine condW_bool ?_ ?_ <;> intro _ <;> try (exfalso; omega)))
              | (refine facW_intro ?_; intro _)
              | refine Or.inl ?_
              | ((conv => whnf); first | (refine condW_dec ?_ ?_ <;> intro _ <;> try (exfalso; omega)) | refine condW_not ?_ | (refine condW_bool ?_ ?_ <;> intro _ <;> try (exfalso; omega)) | (refine nbC_t (fun _ => ?_) ?_) | (refine nbC_f ?_ (fun _ => ?_)))
              | refine And.intro (by first | omega | (simp only [Int.toNat_natCast] at *; omega) | (simp only [Nat.reduceAdd, Int.cast_ofNat_Int, true_and, and_true]; omega)  | kernel_rfl) ?_
              | refine RegW.run ?_
              | refine ⟨_, hx, ?_⟩
              | fail
            all_goals first
              | (exfalso; omega)
              | exact ⟨i + 1, ⟨by omega, fun j hj => by
                  by_cases e : j = i
                  · rw [e]; exact hc
                  · exact i2 j (by omega)⟩, ⟨[], ⟨by kernel_rfl, by kernel_rfl, by kernel_rfl, by kernel_rfl, by kernel_rfl, by kernel_rfl, by kernel_rfl⟩, (by repeat' first | (exact Dle.i (by omega)) | exact trivial | exact rfl | kernel_rfl | exact Dle.of_eq rfl | exact MLe.of_eq rfl | exact Dle.i (by omega) | exact Dle.i (by simp only [Int.toNat_natCast] at *; omega) | exact Dle.nil | exact Dle.rc Dle.nil | exact Option.some_ne_none _ | exact Or.inl rfl | exact Or.inr trivial | omega | (simp only [Int.toNat_natCast] at *; omega) | (intro _ _ _ _; exact Dle.of_eq rfl) | refine And.intro ?_ ?_)⟩, by first | omega | (dsimp only; omega)⟩
              | trace_state
        · have ht : b = true := hb.2 fun j hj => i2 j (by omega)
          rw [ht]
          repeat' first
            | (refine codeW_cond rfl ?_; first | (refine condW_dec ?_ ?_ <;> intro _ <;> try (exfalso; omega)) | refine condW_not ?_ | (refine condW_bool ?_ ?_ <;> intro _ <;> try (exfalso; omega)))
            | (refine facW_intro ?_; intro _)
            | refine Or.inl ?_
            | ((conv => whnf); first | (refine condW_dec ?_ ?_ <;> intro _ <;> try (exfalso; omega)) | refine condW_not ?_ | (refine condW_bool ?_ ?_ <;> intro _ <;> try (exfalso; omega)) | (refine nbC_t (fun _ => ?_) ?_) | (refine nbC_f ?_ (fun _ => ?_)))
            | refine And.intro (by first | omega | (simp only [Int.toNat_natCast] at *; omega) | (simp only [Nat.reduceAdd, Int.cast_ofNat_Int, true_and, and_true]; omega)  | kernel_rfl) ?_
            | refine RegW.run ?_
            | fail
          all_goals first
            | (exfalso; omega)
            | exact Dle.refl _ _
            | trace_state
      · have hf : b = false := by
          cases b
          · rfl
          · exfalso
            have := (hb.1 rfl).2.2.1
            rw [← bAt_L, ← em] at this
            exact h3 (by rw [this]; rfl)
        rw [hf]
        refine Sp.body Tryd.func17 (by kernel_rfl) rfl (by kernel_rfl) (by kernel_rfl) (by kernel_rfl) ?_
        repeat' first
          | (refine codeW_cond rfl ?_; first | (refine condW_dec ?_ ?_ <;> intro _ <;> try (exfalso; omega)) | refine condW_not ?_ | (refine condW_bool ?_ ?_ <;> intro _ <;> try (exfalso; omega)))
          | (refine facW_intro ?_; intro _)
          | refine Or.inl ?_
          | ((conv => whnf); first | (refine condW_dec ?_ ?_ <;> intro _ <;> try (exfalso; omega)) | refine condW_not ?_ | (refine condW_bool ?_ ?_ <;> intro _ <;> try (exfalso; omega)) | (refine nbC_t (fun _ => ?_) ?_) | (refine nbC_f ?_ (fun _ => ?_)))
          | refine And.intro (by first | omega | (simp only [Int.toNat_natCast] at *; omega) | (simp only [Nat.reduceAdd, Int.cast_ofNat_Int, true_and, and_true]; omega)  | kernel_rfl) ?_
          | refine RegW.run ?_
          | fail
        all_goals first
          | (exfalso; omega)
          | exact Dle.refl _ _
          | trace_state
    · have hf : b = false := by
        cases b
        · rfl
        · have := (hb.1 rfl).2.1; omega
      rw [hf]
      refine Sp.body Tryd.func17 (by kernel_rfl) rfl (by kernel_rfl) (by kernel_rfl) (by kernel_rfl) ?_
      repeat' first
        | (refine codeW_cond rfl ?_; first | (refine condW_dec ?_ ?_ <;> intro _ <;> try (exfalso; omega)) | refine condW_not ?_ | (refine condW_bool ?_ ?_ <;> intro _ <;> try (exfalso; omega)))
        | (refine facW_intro ?_; intro _)
        | refine Or.inl ?_
        | ((conv => whnf); first | (refine condW_dec ?_ ?_ <;> intro _ <;> try (exfalso; omega)) | refine condW_not ?_ | (refine condW_bool ?_ ?_ <;> intro _ <;> try (exfalso; omega)) | (refine nbC_t (fun _ => ?_) ?_) | (refine nbC_f ?_ (fun _ => ?_)))
        | refine And.intro (by first | omega | (simp only [Int.toNat_natCast] at *; omega) | (simp only [Nat.reduceAdd, Int.cast_ofNat_Int, true_and, and_true]; omega)  | kernel_rfl) ?_
        | refine RegW.run ?_
        | fail
      all_goals first
        | (exfalso; omega)
        | exact Dle.refl _ _
        | trace_state
end
end na
end Go.Proofs.YteojgenhgjhohaaDoor
