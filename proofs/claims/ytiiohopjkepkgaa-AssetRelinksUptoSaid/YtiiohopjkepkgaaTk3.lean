/-
  Tokens: comments, strings, bytes that cannot be there, on both sides.
-/
import Derived.Test.YtiiohopjkepkgaaTk2
namespace Go.Proofs.Ytiiohopjkepkgaa
open Go.RowKit
set_option linter.unusedVariables false
set_option linter.unusedSimpArgs false
namespace tk
/-- The same for the reference: 0: none begins; -1: it has no end. -/
def ceE (s : ByteArray) (sc : Bool) (i : Nat) : Int :=
  if hasP s i 47 42 then (if ixE s (i + 2) < 0 then -1 else i + 2 + ixE s (i + 2) + 2) else if sc && hasP s i 47 47 then (if ibE s i < 0 then s.size else i + ibE s i) else 0
theorem ce_cm {s : ByteArray} {sc : Bool} {i : Nat} (hi : i < s.size) : (cmE s sc i < 0 → ceE s sc i = 0) ∧ ((s.size : Int) < cmE s sc i → ceE s sc i = -1) ∧ (0 ≤ cmE s sc i → cmE s sc i ≤ s.size → ceE s sc i = cmE s sc i ∧ (i : Int) < cmE s sc i) := by
  have h0 := cmE_ok s sc i hi
  unfold ceE
  unfold cmE cm at *
  by_cases h1 : hasP s i 47 42 = true
  · rw [if_pos h1] at *
    rw [if_pos h1]
    have h2 := ixE_or s (i + 2) (by unfold hasP at h1; simp only [Bool.and_eq_true, decide_eq_true_eq] at h1; exact h1.1)
    split <;> (split at h0 <;> omega)
  · rw [if_neg h1] at *
    rw [if_neg h1]
    by_cases h2 : (sc && hasP s i 47 47) = true
    · rw [if_pos h2] at *
      rw [if_pos h2]
      have h3 := ibE_or s i hi (by
        unfold hasP at h2
        simp only [Bool.and_eq_true, decide_eq_true_eq] at h2
        omega)
      split <;> (split at h0 <;> omega)
    · rw [if_neg h2] at *
      rw [if_neg h2]
      omega
theorem ibE_le (s : ByteArray) (j : Nat) : ibE s j ≤ s.size := by
  unfold ibE
  rcases Int.lt_or_le (Lib.indexByte (s.extract j s.size).data.toList 10) 0 with h | h
  · omega
  · obtain ⟨o, ho⟩ := Int.eq_ofNat_of_zero_le h
    obtain ⟨h2, _⟩ := Lib.indexByte_some ho
    have h3 := (List.getElem?_eq_some_iff.1 h2).1
    rw [ext_len] at h3
    omega
/-- A scanner's objects. -/
abbrev scH (s : ByteArray) (sc : Bool) (A B n : Nat) (g : Nat → Nat → DD) : List (Nat × Ob RC) := [(A, .cells [dS s, dB sc, .own B 4 0 n]), (B, .row 62 n g)]
section
variable (E : Env)
set_option maxRecDepth 100000
theorem pre2_sp (s : ByteArray) (i : Nat) (hi : i ≤ s.size) (a b : UInt8) : Sp (cx Try.prog mixed tyT_ok E) 44 [dS (s.extract ((i : Int)).toNat ((s.size : Int)).toNat), dS ⟨#[a, b]⟩] (dB (hasP s i a.toNat b.toNat)) := by
  have := pre_sp E (s.extract i s.size) ⟨#[a, b]⟩
  rwa [pre_has s i a b hi] at this
theorem ix_sp (hML : ∀ w, E.G w → ML w) (s : ByteArray) (hs : s.size < 4294967281) (i : Nat) (hi : i + 2 ≤ s.size) : Sp (cx Try.prog mixed tyT_ok E) 45 [dS (s.extract ((i : Int) + 2).toNat ((s.size : Int)).toNat), dS ⟨#[42, 47]⟩] (i64 (ixE s (i + 2))) := by
  have := idx_sp E hML (s.extract (i + 2) s.size) ends2 (by rw [ByteArray.size_extract]; omega)
  rw [show ((i : Int) + 2).toNat = i + 2 by omega]
  exact this
theorem ib_sp (s : ByteArray) (i : Nat) : Sp (cx Try.prog mixed tyT_ok E) 46 [dS (s.extract ((i : Int)).toNat ((s.size : Int)).toNat), .v (.int .u8 10)] (i64 (ibE s i)) := idxB_sp E (s.extract i s.size) 10
theorem commentEnd_sp (hML : ∀ w, E.G w → ML w) (s : ByteArray) (hs : s.size < 4294967281) (sc : Bool) (i : Nat) (hi : i ≤ s.size) : Sp (cx Try.prog mixed tyT_ok E) 25 [dS s, i64 i, dB sc] (i64 (ceE s sc i)) := by
  have h1 := pre2_sp E s i hi 47 42
  have h2 := pre2_sp E s i hi 47 47
  have h3 := ib_sp E s i
  have g3 := ibE_le s i
  have h4 : hasP s i 47 42 = true → i + 2 ≤ s.size := fun h => by
    unfold hasP at h
    simp only [Bool.and_eq_true, decide_eq_true_eq] at h
    exact h.1
  obtain ⟨r, hr⟩ : ∃ r, r = ceE s sc i := ⟨_, rfl⟩
  rw [← hr]
  unfold ceE at hr
  generalize ibE s i = y at *
  change Sp _ _ _ (dB (hasP s i 47 42)) at h1
  change Sp _ _ _ (dB (hasP s i 47 47)) at h2
  generalize hasP s i 47 47 = q at *
  cases hp : hasP s i 47 42 <;> rw [hp] at h1 hr h4
  · rw [if_neg (by decide)] at hr
    by_cases hy : y < 0
    · rw [if_pos hy] at hr
      cases sc <;> cases q <;> (try rw [if_neg (by decide)] at hr) <;> (try rw [if_pos (by decide)] at hr)
      all_goals
        refine Sp.body Try.func25 (by kernel_rfl) rfl (by kernel_rfl) (by kernel_rfl) (by kernel_rfl) ?_
        repeat' first
          | (refine codeW_cond rfl ?_; first | (refine condW_dec ?_ ?_ <;> intro _ <;> try (exfalso; omega)) | refine condW_not ?_ | (refine condW_bool ?_ ?_ <;> intro _ <;> try (exfalso; omega)))
          | (refine facW_intro ?_; intro _)
          | refine Or.inl ?_
          | ((conv => whnf); first | (refine condW_dec ?_ ?_ <;> intro _ <;> try (exfalso; omega)) | refine condW_not ?_ | (refine condW_bool ?_ ?_ <;> intro _ <;> try (exfalso; omega)) | (refine nbC_t (fun _ => ?_) ?_) | (refine nbC_f ?_ (fun _ => ?_)))
          | refine And.intro (by first | omega | (simp only [Int.toNat_natCast] at *; omega) | (simp only [Nat.reduceAdd, Int.cast_ofNat_Int, true_and, and_true]; omega) | kernel_rfl) ?_
          | refine RegW.run ?_
          | refine ⟨_, h1, ?_⟩
          | refine ⟨_, h2, ?_⟩
          | refine ⟨_, h3, ?_⟩
          | fail
        all_goals first
          | (exfalso; rename_i h; exact h rfl)
          | exact Dle.i (by omega)
          | trace_state
    · rw [if_neg hy] at hr
      cases sc <;> cases q <;> (try rw [if_neg (by decide)] at hr) <;> (try rw [if_pos (by decide)] at hr)
      all_goals
        refine Sp.body Try.func25 (by kernel_rfl) rfl (by kernel_rfl) (by kernel_rfl) (by kernel_rfl) ?_
        repeat' first
          | (refine codeW_cond rfl ?_; first | (refine condW_dec ?_ ?_ <;> intro _ <;> try (exfalso; omega)) | refine condW_not ?_ | (refine condW_bool ?_ ?_ <;> intro _ <;> try (exfalso; omega)))
          | (refine facW_intro ?_; intro _)
          | refine Or.inl ?_
          | ((conv => whnf); first | (refine condW_dec ?_ ?_ <;> intro _ <;> try (exfalso; omega)) | refine condW_not ?_ | (refine condW_bool ?_ ?_ <;> intro _ <;> try (exfalso; omega)) | (refine nbC_t (fun _ => ?_) ?_) | (refine nbC_f ?_ (fun _ => ?_)))
          | refine And.intro (by first | omega | (simp only [Int.toNat_natCast] at *; omega) | (simp only [Nat.reduceAdd, Int.cast_ofNat_Int, true_and, and_true]; omega) | kernel_rfl) ?_
          | refine RegW.run ?_
          | refine ⟨_, h1, ?_⟩
          | refine ⟨_, h2, ?_⟩
          | refine ⟨_, h3, ?_⟩
          | fail
        all_goals first
          | (exfalso; rename_i h; exact h rfl)
          | exact Dle.i (by omega)
          | trace_state
  · have h4 := h4 rfl
    have h5 := ix_sp E hML s hs i h4
    have g5 := ixE_or s (i + 2) h4
    rw [if_pos (by decide)] at hr
    generalize ixE s (i + 2) = x at *
    by_cases hx : x < 0
    · rw [if_pos hx] at hr
      refine Sp.body Try.func25 (by kernel_rfl) rfl (by kernel_rfl) (by kernel_rfl) (by kernel_rfl) ?_
      repeat' first
        | (refine codeW_cond rfl ?_; first | (refine condW_dec ?_ ?_ <;> intro _ <;> try (exfalso; omega)) | refine condW_not ?_ | (refine condW_bool ?_ ?_ <;> intro _ <;> try (exfalso; omega)))
        | (refine facW_intro ?_; intro _)
        | refine Or.inl ?_
        | ((conv => whnf); first | (refine condW_dec ?_ ?_ <;> intro _ <;> try (exfalso; omega)) | refine condW_not ?_ | (refine condW_bool ?_ ?_ <;> intro _ <;> try (exfalso; omega)) | (refine nbC_t (fun _ => ?_) ?_) | (refine nbC_f ?_ (fun _ => ?_)))
        | refine And.intro (by first | omega | (simp only [Int.toNat_natCast] at *; omega) | (simp only [Nat.reduceAdd, Int.cast_ofNat_Int, true_and, and_true]; omega) | kernel_rfl) ?_
        | refine RegW.run ?_
        | refine ⟨_, h1, ?_⟩
        | refine ⟨_, h2, ?_⟩
        | refine ⟨_, h3, ?_⟩
        | refine ⟨_, h5, ?_⟩
        | fail
      all_goals first
        | (exfalso; rename_i h; exact h rfl)
        | exact Dle.i (by omega)
        | trace_state
    · rw [if_neg hx] at hr
      refine Sp.body Try.func25 (by kernel_rfl) rfl (by kernel_rfl) (by kernel_rfl) (by kernel_rfl) ?_
      repeat' first
        | (refine codeW_cond rfl ?_; first | (refine condW_dec ?_ ?_ <;> intro _ <;> try (exfalso; omega)) | refine condW_not ?_ | (refine condW_bool ?_ ?_ <;> intro _ <;> try (exfalso; omega)))
        | (refine facW_intro ?_; intro _)
        | refine Or.inl ?_
        | ((conv => whnf); first | (refine condW_dec ?_ ?_ <;> intro _ <;> try (exfalso; omega)) | refine condW_not ?_ | (refine condW_bool ?_ ?_ <;> intro _ <;> try (exfalso; omega)) | (refine nbC_t (fun _ => ?_) ?_) | (refine nbC_f ?_ (fun _ => ?_)))
        | refine And.intro (by first | omega | (simp only [Int.toNat_natCast] at *; omega) | (simp only [Nat.reduceAdd, Int.cast_ofNat_Int, true_and, and_true]; omega) | kernel_rfl) ?_
        | refine RegW.run ?_
        | refine ⟨_, h1, ?_⟩
        | refine ⟨_, h2, ?_⟩
        | refine ⟨_, h3, ?_⟩
        | refine ⟨_, h5, ?_⟩
        | fail
      all_goals first
        | (exfalso; rename_i h; exact h rfl)
        | exact Dle.i (by omega)
        | trace_state
theorem stringEnd_sp (s : ByteArray) (a : Nat) (ha : a < s.size) (hs : s.size < 4294967281) (hq : at_ s a = 34 ∨ at_ s a = 39) : Sp (cx Try.prog mixed tyT_ok E) 27 [dS s, i64 a] (i64 (txt s (at_ s a) (a + 1))) := by
  obtain ⟨r, hr⟩ : ∃ r, r = txt s (at_ s a) (a + 1) := ⟨_, rfl⟩
  rw [← hr]
  have hq10 : ¬ at_ s a = 10 := by omega
  have hq92 : ¬ at_ s a = 92 := by omega
  refine Sp.body Try.func27 (by kernel_rfl) rfl (by kernel_rfl) (by kernel_rfl) (by kernel_rfl) ?_
  repeat' first
    | (refine codeW_cond rfl ?_; first | (refine condW_dec ?_ ?_ <;> intro _ <;> try (exfalso; omega)) | refine condW_not ?_ | (refine condW_bool ?_ ?_ <;> intro _ <;> try (exfalso; omega)))
    | (refine facW_intro ?_; intro _)
    | refine Or.inl ?_
    | ((conv => whnf); first | (refine condW_dec ?_ ?_ <;> intro _ <;> try (exfalso; omega)) | refine condW_not ?_ | (refine condW_bool ?_ ?_ <;> intro _ <;> try (exfalso; omega)) | (refine nbC_t (fun _ => ?_) ?_) | (refine nbC_f ?_ (fun _ => ?_)))
    | refine And.intro (by first | omega | (simp only [Int.toNat_natCast] at *; omega) | (simp only [Nat.reduceAdd, Int.cast_ofNat_Int, true_and, and_true]; omega) | kernel_rfl) ?_
    | refine RegW.run ?_
    | fail
  refine ⟨Nat, fun k => [(5, i64 k)], fun k => [], [], fun k => [], fun k => k ≤ s.size + 1 ∧ r = txt s (at_ s a) k, fun k => s.size + 1 - k, ⟨a + 1, ⟨by omega, hr⟩, ⟨[], ⟨by kernel_rfl, by kernel_rfl, by kernel_rfl, by kernel_rfl, by kernel_rfl, by kernel_rfl, by kernel_rfl⟩, (by repeat' first | (exact Dle.i (by omega)) | exact trivial | exact rfl | kernel_rfl | exact Dle.of_eq rfl | exact MLe.of_eq rfl | exact Dle.i (by omega) | exact Dle.i (by simp only [Int.toNat_natCast] at *; omega) | exact Dle.nil | exact Dle.rc Dle.nil | exact Option.some_ne_none _ | exact Or.inl rfl | exact Or.inr trivial | omega | (simp only [Int.toNat_natCast] at *; omega) | (intro _ _ _ _; exact Dle.of_eq rfl) | refine And.intro ?_ ?_)⟩⟩, fun k hk => ?_⟩
  obtain ⟨hk, hK⟩ := hk
  have e0 : ∀ j : Nat, (bAt s ((j : Int)).toNat).toNat = at_ s j := fun j => rfl
  have e1 : (bAt s ((k : Int) + 1).toNat).toNat = at_ s (k + 1) := by rw [show ((k : Int) + 1).toNat = k + 1 by omega]; rfl
  have f0 : ¬ k < s.size → r = -1 := fun h => by rw [hK, txt_end h]
  have f1 : k < s.size → at_ s k = 10 → r = -1 := fun h h2 => by rw [hK, txt_nl h h2]
  have f2 : k < s.size → at_ s k = at_ s a → r = (k : Int) + 1 := fun h h2 => by rw [hK, txt_q h (by omega) h2]
  have f3 : k < s.size → at_ s k = 92 → k + 1 < s.size → at_ s (k + 1) = 10 → r = -1 := fun h h2 h3 h4 => by rw [hK, txt_b1 h (by omega) h2 (by omega), txt_nl h3 h4]
  have f4 : k < s.size → at_ s k = 92 → ¬ (k + 1 < s.size ∧ at_ s (k + 1) = 10) → r = txt s (at_ s a) (k + 2) := fun h h2 h3 => by
    by_cases h4 : k + 1 < s.size
    · rw [hK, txt_bs h (by omega) h2 h4 (by omega)]
    · rw [hK, txt_b1 h (by omega) h2 (by omega), txt_end h4, txt_end (by omega)]
  have f5 : k < s.size → ¬ at_ s k = 10 → ¬ at_ s k = at_ s a → ¬ at_ s k = 92 → r = txt s (at_ s a) (k + 1) := fun h h2 h3 h4 => by rw [hK, txt_go h h2 h3 h4]
  repeat' first
    | (refine codeW_cond rfl ?_; first | (refine condW_dec ?_ ?_ <;> intro _ <;> try (exfalso; omega)) | refine condW_not ?_ | (refine condW_bool ?_ ?_ <;> intro _ <;> try (exfalso; omega)))
    | (refine facW_intro ?_; intro _)
    | refine Or.inl ?_
    | ((conv => whnf); first | (refine condW_dec ?_ ?_ <;> intro _ <;> try (exfalso; omega)) | refine condW_not ?_ | (refine condW_bool ?_ ?_ <;> intro _ <;> try (exfalso; omega)) | (refine nbC_t (fun _ => ?_) ?_) | (refine nbC_f ?_ (fun _ => ?_)))
    | refine And.intro (by first | omega | (simp only [Int.toNat_natCast] at *; omega) | (simp only [Nat.reduceAdd, Int.cast_ofNat_Int, true_and, and_true]; omega) | kernel_rfl) ?_
    | refine RegW.run ?_
    | fail
  all_goals simp only [e0, e1] at *
  all_goals first
    | exact Dle.i (by rw [f0 (by omega)])
    | exact Dle.i (by rw [f1 (by omega) (by omega)])
    | exact Dle.i (by rw [f3 (by omega) (by omega) (by omega) (by omega)])
    | exact Dle.i (by rw [f2 (by omega) (by omega)])
    | exact ⟨k + 2, ⟨by omega, f4 (by omega) (by omega) (by omega)⟩, ⟨[], ⟨by kernel_rfl, by kernel_rfl, by kernel_rfl, by kernel_rfl, by kernel_rfl, by kernel_rfl, by kernel_rfl⟩, (by repeat' first | (exact Dle.i (by omega)) | exact trivial | exact rfl | kernel_rfl | exact Dle.of_eq rfl | exact MLe.of_eq rfl | exact Dle.i (by omega) | exact Dle.i (by simp only [Int.toNat_natCast] at *; omega) | exact Dle.nil | exact Dle.rc Dle.nil | exact Option.some_ne_none _ | exact Or.inl rfl | exact Or.inr trivial | omega | (simp only [Int.toNat_natCast] at *; omega) | (intro _ _ _ _; exact Dle.of_eq rfl) | refine And.intro ?_ ?_)⟩, by first | omega | (dsimp only; omega)⟩
    | exact ⟨k + 1, ⟨by omega, f5 (by omega) (by omega) (by omega) (by omega)⟩, ⟨[], ⟨by kernel_rfl, by kernel_rfl, by kernel_rfl, by kernel_rfl, by kernel_rfl, by kernel_rfl, by kernel_rfl⟩, (by repeat' first | (exact Dle.i (by omega)) | exact trivial | exact rfl | kernel_rfl | exact Dle.of_eq rfl | exact MLe.of_eq rfl | exact Dle.i (by omega) | exact Dle.i (by simp only [Int.toNat_natCast] at *; omega) | exact Dle.nil | exact Dle.rc Dle.nil | exact Option.some_ne_none _ | exact Or.inl rfl | exact Or.inr trivial | omega | (simp only [Int.toNat_natCast] at *; omega) | (intro _ _ _ _; exact Dle.of_eq rfl) | refine And.intro ?_ ?_)⟩, by first | omega | (dsimp only; omega)⟩
    | trace_state
end
end tk
end Go.Proofs.Ytiiohopjkepkgaa
