/-
  Values without a fault; the reference's Step.
-/
import Derived.Test.YtphmfejengmggaaGreatDoorU1
import Derived.Test.YtphmfejengmggaaGreatDoorR1
namespace Go.Proofs.YtphmfejengmggaaGreatDoor
open Go.RowKit
set_option linter.unusedVariables false
set_option linter.unusedSimpArgs false
/-- Keys without a fault are in order. -/
theorem keysFrom_ok : ∀ (n : Nat) (l : List ByteArray) (k : Nat), l.length - k < n → keysFrom l k = 0 → ∀ i, k ≤ i → i < l.length → keyOkB (l.getD i ⟨#[]⟩) = true ∧ (0 < i → strLt (l.getD (i - 1) ⟨#[]⟩) (l.getD i ⟨#[]⟩) = true)
  | 0, l, k, h, _, i, _, _ => by omega
  | n + 1, l, k, h, h0, i, hi, hil => by
    have hk : k < l.length := by omega
    rw [keysFrom, if_pos hk] at h0
    split at h0
    · rename_i h1
      split at h0
      · cases h0
      · rename_i h2
        rcases Nat.lt_or_ge k i with h3 | h3
        · exact keysFrom_ok n l (k + 1) (by omega) h0 i (by omega) hil
        · obtain rfl : i = k := by omega
          refine ⟨h1, fun h4 => ?_⟩
          have h5 : ¬ (strLt (l.getD i ⟨#[]⟩) (l.getD (i - 1) ⟨#[]⟩) || decide (l.getD i ⟨#[]⟩ = l.getD (i - 1) ⟨#[]⟩)) = true := fun h => h2 ⟨h4, h⟩
          simp only [Bool.or_eq_true, decide_eq_true_eq, not_or] at h5
          exact strLt_total (by simpa using h5.1) h5.2
    · cases h0
theorem head_ok {v : Vu} (h : headE v = 0) : ¬ unusedP v ∧ keysFrom v.keys 0 = 0 := by
  unfold headE at h
  split at h
  · cases h
  · split at h
    · cases h
    · rename_i h1
      split at h
      · cases h
      · split at h
        · cases h
        · split at h
          · cases h
          · exact ⟨h1, h⟩
theorem fault_head {v : Vu} (h : faultE v = 0) : headE v = 0 ∧ faultL v.items = 0 := by
  rw [faultE_eq] at h
  split at h
  · rename_i h1
    exact ⟨h1, h⟩
  · rename_i h1
    exact absurd h h1
theorem faultL_mem : ∀ (l : List Vu), faultL l = 0 → ∀ x ∈ l, faultE x = 0
  | [], _, x, hx => by cases hx
  | a :: l, h, x, hx => by
    rw [faultL] at h
    split at h
    · rename_i h1
      rcases List.mem_cons.1 hx with rfl | hx
      · exact h1
      · exact faultL_mem l h x hx
    · rename_i h1
      exact absurd h h1
theorem fault_mem {v : Vu} (h : faultE v = 0) {k : Nat} (hk : k < v.items.length) : faultE (v.items.getD k .zero) = 0 := faultL_mem _ (fault_head h).2 _ (getD_mem _ _ _ hk)
theorem fault_keys {v : Vu} (h : faultE v = 0) : Srt v.keys ∧ (v.kind = 6 → v.keys.length = v.items.length) := by
  obtain ⟨h1, h2⟩ := head_ok (fault_head h).1
  refine ⟨srt_of fun k hk hk2 => (keysFrom_ok (v.keys.length + 1) v.keys 0 (by omega) h2 k (by omega) hk2).2 hk, fun h3 => ?_⟩
  unfold unusedP at h1
  omega
theorem check_ok {v : Vu} (h : checkE v = 0) : faultE v = 0 := by
  unfold checkE at h
  split at h
  · cases h
  · split at h
    · cases h
    · exact h
/-- The first place of a key from a place on; -1: none. -/
def idxS (l : List ByteArray) (x : ByteArray) (k : Nat) : Int := if k < l.length then (if x = l.getD k ⟨#[]⟩ then (k : Int) else idxS l x (k + 1)) else -1
  termination_by l.length - k
theorem idxS_end {l : List ByteArray} {x : ByteArray} {k : Nat} (h : ¬ k < l.length) : idxS l x k = -1 := by rw [idxS, if_neg h]
theorem idxS_at {l : List ByteArray} {x : ByteArray} {k : Nat} (h : k < l.length) (h2 : x = l.getD k ⟨#[]⟩) : idxS l x k = k := by rw [idxS, if_pos h, if_pos h2]
theorem idxS_next {l : List ByteArray} {x : ByteArray} {k : Nat} (h : k < l.length) (h2 : ¬ x = l.getD k ⟨#[]⟩) : idxS l x k = idxS l x (k + 1) := by rw [idxS, if_pos h, if_neg h2]
theorem idxS_spec (l : List ByteArray) (x : ByteArray) : ∀ (n k : Nat), l.length - k < n → (idxS l x k = -1 ∧ ∀ i, k ≤ i → i < l.length → ¬ x = l.getD i ⟨#[]⟩) ∨ ∃ m, idxS l x k = (m : Nat) ∧ m < l.length ∧ x = l.getD m ⟨#[]⟩
  | 0, k, h => by omega
  | n + 1, k, h => by
    rcases Nat.lt_or_ge k l.length with h1 | h1
    · by_cases h2 : x = l.getD k ⟨#[]⟩
      · exact .inr ⟨k, idxS_at h1 h2, h1, h2⟩
      · rw [idxS_next h1 h2]
        rcases idxS_spec l x n (k + 1) (by omega) with ⟨h3, h4⟩ | h3
        · refine .inl ⟨h3, fun i hi hil => ?_⟩
          rcases Nat.lt_or_ge k i with h5 | h5
          · exact h4 i h5 hil
          · obtain rfl : i = k := by omega
            exact h2
        · exact .inr h3
    · exact .inl ⟨idxS_end (by omega), fun i hi hil => by omega⟩
/-- The item to which a part leads. -/
def stepR (v : Vu) (p : ByteArray) : Int := if 97 ≤ (bAt p 0).toNat then (if v.kind = 6 then idxS v.keys p 0 else -1) else if v.kind = 5 ∧ (numN p : Int) < v.items.length then numN p else -1
theorem part_cases {p : ByteArray} (h : partOk false p = true) : 0 < p.size ∧ ((keyOkB p = true ∧ 97 ≤ (bAt p 0).toNat) ∨ (keyOkB p = false ∧ indexB p = true ∧ (bAt p 0).toNat < 97)) := by
  unfold partOk at h
  cases hk : keyOkB p
  · rw [hk] at h
    have h : indexB p = true := by simpa using h
    have h1 := (idx_ref p).1 h
    have hp := dgB_pos h1.1
    have h2 := h1.1
    unfold dgB digs at h2
    simp only [Bool.and_eq_true] at h2
    have := digitB_iff.1 (allN_iff.1 h2.2 0 hp)
    exact ⟨hp, .inr ⟨rfl, h, by omega⟩⟩
  · have h2 := hk
    unfold keyOkB at h2
    simp only [Bool.and_eq_true, decide_eq_true_eq] at h2
    have := smallB_iff.1 h2.1.2
    exact ⟨h2.1.1.1, .inl ⟨rfl, this.1⟩⟩
theorem idx_digs {p : ByteArray} (h : indexB p = true) : digs p = true ∧ p.size ≤ 4 := by
  have h1 := (idx_ref p).1 h
  have h2 := h1.1
  unfold dgB at h2
  simp only [Bool.and_eq_true] at h2
  exact ⟨h2.2, by omega⟩
theorem zeroC (E : Env) : Dle (cx Tryz.prog mixed tyT_ok E) (.agg [i64 0, dB false, i64 0, dS ⟨#[]⟩, .v (.slice none 0 0), .v (.slice none 0 0)]) (encV .zero) :=
  Dle.agg ⟨Dle.refl _ _, Dle.refl _ _, Dle.refl _ _, Dle.refl _ _, Dle.rc (X := (cx Tryz.prog mixed tyT_ok E)) Dle.nil, Dle.nil (X := (cx Tryz.prog mixed tyT_ok E)), trivial⟩
/-- Items without a fault. -/
theorem headI_ok {v : Vu} (h : headI v = 0) : Srt v.keys ∧ (v.kind = 6 → v.keys.length = v.items.length) := by
  have he := setl_eq v
  obtain ⟨h1, h2⟩ := head_ok (show headE (setl v) = 0 from h)
  have hk : (setl v).keys = v.keys := by rw [he]; rfl
  have hi : (setl v).items.length = v.items.length := by rw [he]; exact setlL_len _
  have hkd : (setl v).kind = skind v.kind := setl_kind v
  rw [hk] at h2
  refine ⟨srt_of fun k hk hk2 => (keysFrom_ok (v.keys.length + 1) v.keys 0 (by omega) h2 k (by omega) hk2).2 hk, fun h3 => ?_⟩
  unfold unusedP at h1
  rw [hk, hi, hkd, h3, show skind 6 = 6 from rfl] at h1
  omega
theorem item_head {v : Vu} (h : itemE v = 0) : headI v = 0 ∧ itemL v.items = 0 := by
  rw [itemE_eq] at h
  split at h
  · rename_i h1
    exact ⟨h1, h⟩
  · rename_i h1
    exact absurd h h1
theorem itemL_mem : ∀ (l : List Vu), itemL l = 0 → ∀ x ∈ l, itemE x = 0
  | [], _, x, hx => by cases hx
  | a :: l, h, x, hx => by
    rw [itemL] at h
    split at h
    · rename_i h1
      rcases List.mem_cons.1 hx with rfl | hx
      · exact h1
      · exact itemL_mem l h x hx
    · rename_i h1
      exact absurd h h1
theorem item_mem {v : Vu} (h : itemE v = 0) {k : Nat} (hk : k < v.items.length) : itemE (v.items.getD k .zero) = 0 := itemL_mem _ (item_head h).2 _ (getD_mem _ _ _ hk)
theorem item_keys {v : Vu} (h : itemE v = 0) : Srt v.keys ∧ (v.kind = 6 → v.keys.length = v.items.length) := headI_ok (item_head h).1
theorem step_lt {v : Vu} {p : ByteArray} (hl : v.kind = 6 → v.keys.length = v.items.length) : stepR v p < 0 ∨ ∃ m : Nat, stepR v p = m ∧ m < v.items.length := by
  unfold stepR
  split
  · split
    · rename_i h6
      rcases idxS_spec v.keys p (v.keys.length + 1) 0 (by omega) with ⟨h1, _⟩ | ⟨m, h1, h2, _⟩
      · exact .inl (by omega)
      · exact .inr ⟨m, h1, by have := hl h6; omega⟩
    · exact .inl (by omega)
  · split
    · rename_i h5
      exact .inr ⟨_, rfl, by omega⟩
    · exact .inl (by omega)
/-- The item to which parts lead. -/
def followP (v : Vu) (p : ByteArray) : Option Vu := if stepR v p < 0 then none else some (v.items.getD (stepR v p).toNat .zero)
def getP : List ByteArray → Vu → Option Vu
  | [], v => some v
  | p :: r, v => match followP v p with
    | some x => getP r x
    | none => none
theorem getP_drop {l : List ByteArray} {k : Nat} {v : Vu} (h : k < l.length) : getP (l.drop k) v = match followP v (l.getD k ⟨#[]⟩) with | some x => getP (l.drop (k + 1)) x | none => none := by
  rw [drop_cons l ⟨#[]⟩ k h]; rfl
theorem getP_end {l : List ByteArray} {k : Nat} {v : Vu} (h : l.length ≤ k) : getP (l.drop k) v = some v := by rw [List.drop_of_length_le h]; rfl
section
variable (E : Env)
set_option maxRecDepth 100000
theorem index_sp (l : List ByteArray) (x : ByteArray) : Sp (cx Tryz.prog mixed tyT_ok E) 187 [encStrs l, dS x] (i64 (idxS l x 0)) := by
  obtain ⟨r, hr⟩ : ∃ r, r = idxS l x 0 := ⟨_, rfl⟩
  rw [← hr]
  refine Sp.body Tryz.func187 (by kernel_rfl) rfl (by kernel_rfl) (by kernel_rfl) (by kernel_rfl) ?_
  repeat' first
    | (refine facW_intro ?_; intro _)
    | refine Or.inl ?_
    | ((conv => whnf); first | (refine condW_dec ?_ ?_ <;> intro _) | refine condW_not ?_ | (refine condW_bool ?_ ?_ <;> intro _) | (refine nbC_t (fun _ => ?_) ?_) | (refine nbC_f ?_ (fun _ => ?_)))
    | refine And.intro (by first | omega | (simp only [Int.toNat_natCast] at *; omega) | (simp only [Nat.reduceAdd, Int.cast_ofNat_Int, true_and, and_true]; omega) | kernel_rfl) ?_
    | refine RegW.run ?_
    | fail
  refine ⟨Nat, fun k => [(8, i64 k)], fun k => [], [], fun k => [], fun k => k ≤ l.length ∧ r = idxS l x k, fun k => l.length - k, ⟨0, ⟨by omega, hr⟩, ⟨[], ⟨by kernel_rfl, by kernel_rfl, by kernel_rfl, by kernel_rfl, by kernel_rfl, by kernel_rfl, by kernel_rfl⟩, (by repeat' first | exact trivial | exact rfl | kernel_rfl | exact Dle.of_eq rfl | exact MLe.of_eq rfl | exact Dle.i (by omega) | exact Dle.i (by simp only [Int.toNat_natCast] at *; omega) | exact Dle.nil | exact Dle.rc Dle.nil | exact Option.some_ne_none _ | exact Or.inl rfl | exact Or.inr trivial | omega | (simp only [Int.toNat_natCast] at *; omega) | (intro _ _ _ _; exact Dle.of_eq rfl) | refine And.intro ?_ ?_)⟩⟩, fun k hk => ?_⟩
  obtain ⟨hk, hK⟩ := hk
  repeat' first
    | (refine facW_intro ?_; intro _)
    | refine Or.inl ?_
    | ((conv => whnf); first | (refine condW_dec ?_ ?_ <;> intro _) | refine condW_not ?_ | (refine condW_bool ?_ ?_ <;> intro _) | (refine nbC_t (fun _ => ?_) ?_) | (refine nbC_f ?_ (fun _ => ?_)))
    | refine And.intro (by first | omega | (simp only [Int.toNat_natCast] at *; omega) | (simp only [Nat.reduceAdd, Int.cast_ofNat_Int, true_and, and_true]; omega) | kernel_rfl) ?_
    | refine RegW.run ?_
    | fail
  all_goals first
    | exact ⟨k + 1, ⟨by omega, by rw [hK, idxS_next (by omega) (by simp only [Int.toNat_natCast] at *; first | assumption | (rw [show ((k : Int) - 1).toNat = k - 1 by omega] at *; assumption))]⟩, ⟨[], ⟨by kernel_rfl, by kernel_rfl, by kernel_rfl, by kernel_rfl, by kernel_rfl, by kernel_rfl, by kernel_rfl⟩, (by repeat' first | exact trivial | exact rfl | kernel_rfl | exact Dle.of_eq rfl | exact MLe.of_eq rfl | exact Dle.i (by omega) | exact Dle.i (by simp only [Int.toNat_natCast] at *; omega) | exact Dle.nil | exact Dle.rc Dle.nil | exact Option.some_ne_none _ | exact Or.inl rfl | exact Or.inr trivial | omega | (simp only [Int.toNat_natCast] at *; omega) | (intro _ _ _ _; exact Dle.of_eq rfl) | refine And.intro ?_ ?_)⟩, by first | omega | (dsimp only; omega)⟩
    | exact Dle.i (by rw [hK, idxS_at (by omega) (by simp only [Int.toNat_natCast] at *; first | assumption | (rw [show ((k : Int) - 1).toNat = k - 1 by omega] at *; assumption))])
    | exact Dle.i (by rw [hK, idxS_end (by omega)])
    | trace_state
set_option maxHeartbeats 1000000 in
theorem step_sp (v : Vu) (p : ByteArray) (h : partOk false p = true) : Sp (cx Tryz.prog mixed tyT_ok E) 213 [encV v, dS p] (i64 (stepR v p)) := by
  obtain ⟨hp, hc⟩ := part_cases h
  obtain ⟨r, hr⟩ : ∃ r, r = stepR v p := ⟨_, rfl⟩
  rw [← hr]
  unfold stepR at hr
  rcases hc with ⟨hk, hb⟩ | ⟨hk, hi, hb⟩
  · rw [if_pos hb] at hr
    refine Sp.body Tryz.func213 (by kernel_rfl) rfl (by kernel_rfl) (by kernel_rfl) (by kernel_rfl) ?_
    repeat' first
      | (refine facW_intro ?_; intro _)
      | refine Or.inl ?_
      | ((conv => whnf); first | (refine condW_dec ?_ ?_ <;> intro _) | refine condW_not ?_ | (refine condW_bool ?_ ?_ <;> intro _) | (refine nbC_t (fun _ => ?_) ?_) | (refine nbC_f ?_ (fun _ => ?_)))
      | refine And.intro (by first | omega | (simp only [Int.toNat_natCast] at *; omega) | (simp only [Nat.reduceAdd, Int.cast_ofNat_Int, true_and, and_true]; omega) | kernel_rfl) ?_
      | refine RegW.run ?_
      | refine ⟨_, index_sp E _ _, ?_⟩
      | fail
    all_goals simp only [Int.toNat_zero] at *
    all_goals first
      | (exfalso; omega)
      | exact Dle.i (by rw [hr]; grind)
      | trace_state
  · rw [if_neg (by omega)] at hr
    obtain ⟨hd, h4⟩ := idx_digs hi
    refine Sp.body Tryz.func213 (by kernel_rfl) rfl (by kernel_rfl) (by kernel_rfl) (by kernel_rfl) ?_
    repeat' first
      | (refine facW_intro ?_; intro _)
      | refine Or.inl ?_
      | ((conv => whnf); first | (refine condW_dec ?_ ?_ <;> intro _) | refine condW_not ?_ | (refine condW_bool ?_ ?_ <;> intro _) | (refine nbC_t (fun _ => ?_) ?_) | (refine nbC_f ?_ (fun _ => ?_)))
      | refine And.intro (by first | omega | (simp only [Int.toNat_natCast] at *; omega) | (simp only [Nat.reduceAdd, Int.cast_ofNat_Int, true_and, and_true]; omega) | kernel_rfl) ?_
      | refine RegW.run ?_
      | refine ⟨_, atoi_sp E _ hd hp h4, ?_⟩
      | fail
    all_goals simp only [Int.toNat_zero] at *
    all_goals first
      | (exfalso; omega)
      | exact Dle.i (by rw [hr]; grind)
      | trace_state
set_option maxHeartbeats 1000000 in
theorem refFollow_sp (v : Vu) (l : List ByteArray) (hs : ∀ p ∈ l, partOk false p = true) (hf : itemE v = 0) : Sp (cx Tryz.prog mixed tyT_ok E) 200 [encV v, encStrs l] (.tup [encV ((getP l v).getD .zero), dB (getP l v).isSome]) := by
  obtain ⟨o, ho⟩ : ∃ o, o = getP l v := ⟨_, rfl⟩
  rw [← ho]
  refine Sp.body Tryz.func200 (by kernel_rfl) rfl (by kernel_rfl) (by kernel_rfl) (by kernel_rfl) ?_
  repeat' first
    | (refine facW_intro ?_; intro _)
    | refine Or.inl ?_
    | ((conv => whnf); first | (refine condW_dec ?_ ?_ <;> intro _) | refine condW_not ?_ | (refine condW_bool ?_ ?_ <;> intro _) | (refine nbC_t (fun _ => ?_) ?_) | (refine nbC_f ?_ (fun _ => ?_)))
    | refine And.intro (by first | omega | (simp only [Int.toNat_natCast] at *; omega) | (simp only [Nat.reduceAdd, Int.cast_ofNat_Int, true_and, and_true]; omega) | kernel_rfl) ?_
    | refine RegW.run ?_
    | fail
  refine ⟨Nat × Vu, fun k => [(11, i64 k.1)], fun k => [(2, .cells [i64 k.2.kind, dB k.2.b, i64 k.2.i, dS k.2.text, .rc (.vals k.2.items), encStrs k.2.keys])], [4], fun k => [], fun k => k.1 ≤ l.length ∧ itemE k.2 = 0 ∧ o = getP (l.drop k.1) k.2, fun k => l.length - k.1, ⟨(0, v), ⟨by omega, hf, ho⟩, ⟨[], ⟨by kernel_rfl, by kernel_rfl, by kernel_rfl, by kernel_rfl, by kernel_rfl, by kernel_rfl, by kernel_rfl⟩, (by repeat' first | exact trivial | exact rfl | kernel_rfl | exact Dle.of_eq rfl | exact MLe.of_eq rfl | exact Dle.i (by omega) | exact Dle.i (by simp only [Int.toNat_natCast] at *; omega) | exact Dle.nil | exact Dle.rc Dle.nil | exact Option.some_ne_none _ | exact Or.inl rfl | exact Or.inr trivial | omega | (simp only [Int.toNat_natCast] at *; omega) | (intro _ _ _ _; exact Dle.of_eq rfl) | refine And.intro ?_ ?_)⟩⟩, fun k hk => ?_⟩
  obtain ⟨h1, h2, h4⟩ := hk
  refine Or.inl ?_
  refine condW_dec ?_ ?_ <;> intro hlt
  · have hlt : k.1 < l.length := by omega
    have hp := hs _ (getD_mem l ⟨#[]⟩ k.1 hlt)
    have hsf := step_lt (p := l.getD k.1 ⟨#[]⟩) (item_keys h2).2
    have hc := step_sp E k.2 _ hp
    rw [getP_drop (by omega)] at h4
    unfold followP at h4
    generalize stepR k.2 (l.getD k.1 ⟨#[]⟩) = r at hsf hc h4
    rcases hsf with h5 | ⟨m, rfl, h5⟩
    · rw [if_pos h5] at h4
      have h4 : o = none := h4
      rw [h4]
      repeat' first
        | (refine facW_intro ?_; intro _)
        | refine Or.inl ?_
        | ((conv => whnf); first | (refine condW_dec ?_ ?_ <;> intro _) | refine condW_not ?_ | (refine condW_bool ?_ ?_ <;> intro _) | (refine nbC_t (fun _ => ?_) ?_) | (refine nbC_f ?_ (fun _ => ?_)))
        | refine And.intro (by first | omega | (simp only [Int.toNat_natCast] at *; omega) | (simp only [Nat.reduceAdd, Int.cast_ofNat_Int, true_and, and_true]; omega) | kernel_rfl) ?_
        | refine RegW.run ?_
        | refine ⟨_, hc, ?_⟩
        | fail
      all_goals first
        | (exfalso; omega)
        | exact Dle.tup (X := (cx Tryz.prog mixed tyT_ok E)) ⟨zeroC E, Dle.refl _ _, trivial⟩
        | trace_state
    · rw [if_neg (by omega)] at h4
      have h4 : o = getP (l.drop (k.1 + 1)) (k.2.items.getD m .zero) := h4
      have hfm := item_mem h2 h5
      repeat' first
        | (refine facW_intro ?_; intro _)
        | refine Or.inl ?_
        | ((conv => whnf); first | (refine condW_dec ?_ ?_ <;> intro _) | refine condW_not ?_ | (refine condW_bool ?_ ?_ <;> intro _) | (refine nbC_t (fun _ => ?_) ?_) | (refine nbC_f ?_ (fun _ => ?_)))
        | refine And.intro (by first | omega | (simp only [Int.toNat_natCast] at *; omega) | (simp only [Nat.reduceAdd, Int.cast_ofNat_Int, true_and, and_true]; omega) | kernel_rfl) ?_
        | refine RegW.run ?_
        | refine ⟨_, hc, ?_⟩
        | fail
      all_goals first
        | (exfalso; omega)
        | exact ⟨(k.1 + 1, k.2.items.getD m .zero), ⟨by dsimp only; omega, hfm, h4⟩, ⟨[], ⟨by kernel_rfl, by kernel_rfl, by kernel_rfl, by kernel_rfl, by kernel_rfl, by kernel_rfl, by kernel_rfl⟩, (by repeat' first | exact trivial | exact rfl | kernel_rfl | exact Dle.of_eq rfl | exact MLe.of_eq rfl | exact Dle.i (by omega) | exact Dle.i (by simp only [Int.toNat_natCast] at *; omega) | exact Dle.nil | exact Dle.rc Dle.nil | exact Option.some_ne_none _ | exact Or.inl rfl | exact Or.inr trivial | omega | (simp only [Int.toNat_natCast] at *; omega) | (intro _ _ _ _; exact Dle.of_eq rfl) | refine And.intro ?_ ?_)⟩, by first | omega | (dsimp only; omega)⟩
        | trace_state
  · have h5 := getP_end (l := l) (k := k.1) (v := k.2) (by omega)
    rw [h5] at h4
    rw [h4]
    repeat' first
      | (refine facW_intro ?_; intro _)
      | refine Or.inl ?_
      | ((conv => whnf); first | (refine condW_dec ?_ ?_ <;> intro _) | refine condW_not ?_ | (refine condW_bool ?_ ?_ <;> intro _) | (refine nbC_t (fun _ => ?_) ?_) | (refine nbC_f ?_ (fun _ => ?_)))
      | refine And.intro (by first | omega | (simp only [Int.toNat_natCast] at *; omega) | (simp only [Nat.reduceAdd, Int.cast_ofNat_Int, true_and, and_true]; omega) | kernel_rfl) ?_
      | refine RegW.run ?_
      | fail
    exact Dle.tup (X := (cx Tryz.prog mixed tyT_ok E)) ⟨Dle.refl _ _, Dle.refl _ _, trivial⟩
end
end Go.Proofs.YtphmfejengmggaaGreatDoor
