/-
  The reference's Step, Follow, GetOf.
-/
import Derived.Test.YtgdoelfajfjopaaGreatDoorS5
namespace Go.Proofs.YtgdoelfajfjopaaGreatDoor
open Go.RowKit
set_option linter.unusedVariables false
set_option linter.unusedSimpArgs false
/-- The first place of a key from a place on; -1: none. -/
def idxS (l : List ByteArray) (x : ByteArray) (k : Nat) : Int := if k < l.length then (if x = l.getD k ⟨#[]⟩ then (k : Int) else idxS l x (k + 1)) else -1
  termination_by l.length - k
theorem idxS_end {l : List ByteArray} {x : ByteArray} {k : Nat} (h : ¬ k < l.length) : idxS l x k = -1 := by rw [idxS, if_neg h]
theorem idxS_at {l : List ByteArray} {x : ByteArray} {k : Nat} (h : k < l.length) (h2 : x = l.getD k ⟨#[]⟩) : idxS l x k = k := by rw [idxS, if_pos h, if_pos h2]
theorem idxS_next {l : List ByteArray} {x : ByteArray} {k : Nat} (h : k < l.length) (h2 : ¬ x = l.getD k ⟨#[]⟩) : idxS l x k = idxS l x (k + 1) := by rw [idxS, if_pos h, if_neg h2]
theorem idxS_spec (l : List ByteArray) (x : ByteArray) : ∀ (n k : Nat), l.length - k < n → (idxS l x k = -1 ∧ ∀ i, k ≤ i → i < l.length → ¬ x = l.getD i ⟨#[]⟩) ∨ ∃ m, idxS l x k = (m : Nat) ∧ m < l.length ∧ x = l.getD m ⟨#[]⟩
  | 0, k, h => by omega
  | n + 1, k, h => by
    rcases Nat.lt_or_ge k l.length with h1 | h1
    · by_cases h2 : x = l.getD k ⟨#[]⟩
      · exact .inr ⟨k, idxS_at h1 h2, h1, h2⟩
      · rw [idxS_next h1 h2]
        rcases idxS_spec l x n (k + 1) (by omega) with ⟨h3, h4⟩ | h3
        · refine .inl ⟨h3, fun i hi hil => ?_⟩
          rcases Nat.lt_or_ge k i with h5 | h5
          · exact h4 i h5 hil
          · obtain rfl : i = k := by omega
            exact h2
        · exact .inr h3
    · exact .inl ⟨idxS_end (by omega), fun i hi hil => by omega⟩
/-- The item to which a part leads. -/
def stepR (v : Vu) (p : ByteArray) : Int := if 97 ≤ (bAt p 0).toNat then (if v.kind = 6 then idxS v.keys p 0 else -1) else if v.kind = 5 ∧ (numN p : Int) < v.items.length then numN p else -1
theorem part_cases {p : ByteArray} (h : partOk false p = true) : 0 < p.size ∧ ((keyOkB p = true ∧ 97 ≤ (bAt p 0).toNat) ∨ (keyOkB p = false ∧ indexB p = true ∧ (bAt p 0).toNat < 97)) := by
  unfold partOk at h
  cases hk : keyOkB p
  · rw [hk] at h
    have h : indexB p = true := by simpa using h
    have h1 := (idx_ref p).1 h
    have hp := dgB_pos h1.1
    have h2 := h1.1
    unfold dgB digs at h2
    simp only [Bool.and_eq_true] at h2
    have := digitB_iff.1 (allN_iff.1 h2.2 0 hp)
    exact ⟨hp, .inr ⟨rfl, h, by omega⟩⟩
  · have h2 := hk
    unfold keyOkB at h2
    simp only [Bool.and_eq_true, decide_eq_true_eq] at h2
    have := smallB_iff.1 h2.1.2
    exact ⟨h2.1.1.1, .inl ⟨rfl, this.1⟩⟩
theorem idx_digs {p : ByteArray} (h : indexB p = true) : digs p = true ∧ p.size ≤ 4 := by
  have h1 := (idx_ref p).1 h
  have h2 := h1.1
  unfold dgB at h2
  simp only [Bool.and_eq_true] at h2
  exact ⟨h2.2, by omega⟩
theorem step_follow {v : Vu} {p : ByteArray} (h : partOk false p = true) (hf : faultE v = 0) : (stepR v p < 0 ∧ followS v (stepOf p) = none) ∨ ∃ m : Nat, stepR v p = m ∧ m < v.items.length ∧ followS v (stepOf p) = some (v.items.getD m .zero) := by
  obtain ⟨hp, ⟨hk, hb⟩ | ⟨hk, hi, hb⟩⟩ := part_cases h
  · have hst : stepOf p = ⟨p, 0, false⟩ := by unfold stepOf; rw [if_pos hk]
    have hne : ¬ p = ⟨#[]⟩ := fun e => by subst e; exact absurd hp (by decide)
    unfold stepR followS
    rw [hst, if_pos hb]
    simp only
    rw [if_neg hne]
    by_cases h6 : v.kind = 6
    · obtain ⟨hs, hl⟩ := fault_keys hf
      rw [if_pos h6]
      rcases idxS_spec v.keys p (v.keys.length + 1) 0 (by omega) with ⟨h1, h2⟩ | ⟨m, h1, h2, h3⟩
      · refine .inl ⟨by omega, if_neg fun h7 => ?_⟩
        have h8 := h7.2
        have h9 := has_lt h8
        unfold hasK at h8
        simp only [Bool.and_eq_true, decide_eq_true_eq] at h8
        exact h2 _ (Nat.zero_le _) h9 h8.2.symm
      · have h4 : findK v p = m := bsr_at hs h2 h3.symm
        refine .inr ⟨m, h1, by have := hl h6; omega, ?_⟩
        rw [if_pos, h4]
        refine ⟨h6, ?_⟩
        unfold hasK
        rw [h4, decide_eq_true h2, decide_eq_true h3.symm]
        rfl
    · rw [if_neg h6]
      exact .inl ⟨by omega, if_neg fun h7 => h6 h7.1⟩
  · rw [step_idx hk hi]
    unfold stepR followS
    rw [if_neg (by omega)]
    simp only
    rw [if_pos True.intro]
    by_cases h5 : v.kind = 5 ∧ (numN p : Int) < v.items.length
    · rw [if_pos h5, if_pos h5]
      exact .inr ⟨numN p, rfl, by omega, rfl⟩
    · rw [if_neg h5, if_neg h5]
      exact .inl ⟨by omega, rfl⟩
section
variable (E : Env)
set_option maxRecDepth 100000
theorem index_sp (l : List ByteArray) (x : ByteArray) : Sp (cx Tryz.prog mixed tyT_ok E) 59 [encStrs l, dS x] (i64 (idxS l x 0)) := by
  obtain ⟨r, hr⟩ : ∃ r, r = idxS l x 0 := ⟨_, rfl⟩
  rw [← hr]
  refine Sp.body Tryz.func59 (by kernel_rfl) rfl (by kernel_rfl) (by kernel_rfl) (by kernel_rfl) ?_
  repeat' first
    | (refine facW_intro ?_; intro _)
    | refine Or.inl ?_
    | ((conv => whnf); first | (refine condW_dec ?_ ?_ <;> intro _) | refine condW_not ?_ | (refine condW_bool ?_ ?_ <;> intro _) | (refine nbC_t (fun _ => ?_) ?_) | (refine nbC_f ?_ (fun _ => ?_)))
    | refine And.intro (by first | omega | (simp only [Int.toNat_natCast] at *; omega) | (simp only [Nat.reduceAdd, Int.cast_ofNat_Int, true_and, and_true]; omega)  | kernel_rfl) ?_
    | refine RegW.run ?_
    | fail
  refine ⟨Nat, fun k => [(8, i64 k)], fun k => [], [], fun k => [], fun k => k ≤ l.length ∧ r = idxS l x k, fun k => l.length - k, ⟨0, ⟨by omega, hr⟩, ⟨[], ⟨by kernel_rfl, by kernel_rfl, by kernel_rfl, by kernel_rfl, by kernel_rfl, by kernel_rfl, by kernel_rfl⟩, (by repeat' first | exact trivial | exact rfl | kernel_rfl | exact Dle.of_eq rfl | exact MLe.of_eq rfl | exact Dle.i (by omega) | exact Dle.i (by simp only [Int.toNat_natCast] at *; omega) | exact Dle.nil | exact Dle.rc Dle.nil | exact Option.some_ne_none _ | exact Or.inl rfl | exact Or.inr trivial | omega | (simp only [Int.toNat_natCast] at *; omega) | (intro _ _ _ _; exact Dle.of_eq rfl) | refine And.intro ?_ ?_)⟩⟩, fun k hk => ?_⟩
  obtain ⟨hk, hK⟩ := hk
  repeat' first
    | (refine facW_intro ?_; intro _)
    | refine Or.inl ?_
    | ((conv => whnf); first | (refine condW_dec ?_ ?_ <;> intro _) | refine condW_not ?_ | (refine condW_bool ?_ ?_ <;> intro _) | (refine nbC_t (fun _ => ?_) ?_) | (refine nbC_f ?_ (fun _ => ?_)))
    | refine And.intro (by first | omega | (simp only [Int.toNat_natCast] at *; omega) | (simp only [Nat.reduceAdd, Int.cast_ofNat_Int, true_and, and_true]; omega)  | kernel_rfl) ?_
    | refine RegW.run ?_
    | fail
  all_goals first
    | exact ⟨k + 1, ⟨by omega, by rw [hK, idxS_next (by omega) (by simp only [Int.toNat_natCast] at *; first | assumption | (rw [show ((k : Int) - 1).toNat = k - 1 by omega] at *; assumption))]⟩, ⟨[], ⟨by kernel_rfl, by kernel_rfl, by kernel_rfl, by kernel_rfl, by kernel_rfl, by kernel_rfl, by kernel_rfl⟩, (by repeat' first | exact trivial | exact rfl | kernel_rfl | exact Dle.of_eq rfl | exact MLe.of_eq rfl | exact Dle.i (by omega) | exact Dle.i (by simp only [Int.toNat_natCast] at *; omega) | exact Dle.nil | exact Dle.rc Dle.nil | exact Option.some_ne_none _ | exact Or.inl rfl | exact Or.inr trivial | omega | (simp only [Int.toNat_natCast] at *; omega) | (intro _ _ _ _; exact Dle.of_eq rfl) | refine And.intro ?_ ?_)⟩, by first | omega | (dsimp only; omega)⟩
    | exact Dle.i (by rw [hK, idxS_at (by omega) (by simp only [Int.toNat_natCast] at *; first | assumption | (rw [show ((k : Int) - 1).toNat = k - 1 by omega] at *; assumption))])
    | exact Dle.i (by rw [hK, idxS_end (by omega)])
    | trace_state
theorem getD_map (l : List ByteArray) (k : Nat) (h : k < l.length) : (l.map stepOf).getD k default = stepOf (l.getD k ⟨#[]⟩) := by simp [List.getD, h]
theorem parts_ok {s : ByteArray} (h : routeOk false s = true) : ∀ p ∈ partsR s, partOk false p = true := by
  unfold routeOk at h
  unfold partsR
  simp only [Bool.and_eq_true, Bool.or_eq_true, decide_eq_true_eq, List.all_eq_true] at h
  intro p hp
  split at hp
  · cases hp
  · rename_i h2
    exact (h.2.resolve_left h2) p hp
theorem refCheck_sp (v : Vu) (hb : cnt v ≤ 4611686018427387904) : Sp (cx Tryz.prog mixed tyT_ok E) 13 [encV v] (i64 (checkE v)) := confCheck_sp E v hb
end
end Go.Proofs.YtgdoelfajfjopaaGreatDoor
