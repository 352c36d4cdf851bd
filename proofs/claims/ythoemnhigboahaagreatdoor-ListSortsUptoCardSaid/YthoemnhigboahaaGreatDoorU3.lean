/-
  Values without a fault; the reference's Step. list.valueFault, valuesFault, CheckItem. The reference's settled, ItemFault. list.steps, at, had, listFault, routed; the reference's HasAt, ListFault, RouteFault.
-/
import Derived.Test.YthoemnhigboahaaGreatDoorU1
import Derived.Test.YthoemnhigboahaaGreatDoorR1
import Derived.Test.YthoemnhigboahaaGreatDoorQ7
import Derived.Test.YthoemnhigboahaaGreatDoorQ8
namespace Go.Proofs.YthoemnhigboahaaGreatDoor
open Go.RowKit
set_option linter.unusedVariables false
set_option linter.unusedSimpArgs false
theorem keysFrom_ok : ∀ (n : Nat) (l : List ByteArray) (k : Nat), l.length - k < n → keysFrom l k = 0 → ∀ i, k ≤ i → i < l.length → keyOkB (l.getD i ⟨#[]⟩) = true ∧ (0 < i → strLt (l.getD (i - 1) ⟨#[]⟩) (l.getD i ⟨#[]⟩) = true)
  | 0, l, k, h, _, i, _, _ => by omega
  | n + 1, l, k, h, h0, i, hi, hil => by
    have hk : k < l.length := by omega
    rw [keysFrom, if_pos hk] at h0
    split at h0
    · rename_i h1
      split at h0
      · cases h0
      · rename_i h2
        rcases Nat.lt_or_ge k i with h3 | h3
        · exact keysFrom_ok n l (k + 1) (by omega) h0 i (by omega) hil
        · obtain rfl : i = k := by omega
          refine ⟨h1, fun h4 => ?_⟩
          have h5 : ¬ (strLt (l.getD i ⟨#[]⟩) (l.getD (i - 1) ⟨#[]⟩) || decide (l.getD i ⟨#[]⟩ = l.getD (i - 1) ⟨#[]⟩)) = true := fun h => h2 ⟨h4, h⟩
          simp only [Bool.or_eq_true, decide_eq_true_eq, not_or] at h5
          exact strLt_total (by simpa using h5.1) h5.2
    · cases h0
theorem head_ok {v : Vu} (h : headE v = 0) : ¬ unusedP v ∧ keysFrom v.keys 0 = 0 := by
  unfold headE at h
  split at h
  · cases h
  · split at h
    · cases h
    · rename_i h1
      split at h
      · cases h
      · split at h
        · cases h
        · split at h
          · cases h
          · exact ⟨h1, h⟩
def idxS (l : List ByteArray) (x : ByteArray) (k : Nat) : Int := if k < l.length then (if x = l.getD k ⟨#[]⟩ then (k : Int) else idxS l x (k + 1)) else -1
  termination_by l.length - k
theorem idxS_end {l : List ByteArray} {x : ByteArray} {k : Nat} (h : ¬ k < l.length) : idxS l x k = -1 := by rw [idxS, if_neg h]
theorem idxS_at {l : List ByteArray} {x : ByteArray} {k : Nat} (h : k < l.length) (h2 : x = l.getD k ⟨#[]⟩) : idxS l x k = k := by rw [idxS, if_pos h, if_pos h2]
theorem idxS_next {l : List ByteArray} {x : ByteArray} {k : Nat} (h : k < l.length) (h2 : ¬ x = l.getD k ⟨#[]⟩) : idxS l x k = idxS l x (k + 1) := by rw [idxS, if_pos h, if_neg h2]
theorem idxS_spec (l : List ByteArray) (x : ByteArray) : ∀ (n k : Nat), l.length - k < n → (idxS l x k = -1 ∧ ∀ i, k ≤ i → i < l.length → ¬ x = l.getD i ⟨#[]⟩) ∨ ∃ m, idxS l x k = (m : Nat) ∧ m < l.length ∧ x = l.getD m ⟨#[]⟩
  | 0, k, h => by omega
  | n + 1, k, h => by
    rcases Nat.lt_or_ge k l.length with h1 | h1
    · by_cases h2 : x = l.getD k ⟨#[]⟩
      · exact .inr ⟨k, idxS_at h1 h2, h1, h2⟩
      · rw [idxS_next h1 h2]
        rcases idxS_spec l x n (k + 1) (by omega) with ⟨h3, h4⟩ | h3
        · refine .inl ⟨h3, fun i hi hil => ?_⟩
          rcases Nat.lt_or_ge k i with h5 | h5
          · exact h4 i h5 hil
          · obtain rfl : i = k := by omega
            exact h2
        · exact .inr h3
    · exact .inl ⟨idxS_end (by omega), fun i hi hil => by omega⟩
def stepR (v : Vu) (p : ByteArray) : Int := if 97 ≤ (bAt p 0).toNat then (if v.kind = 6 then idxS v.keys p 0 else -1) else if v.kind = 5 ∧ (numN p : Int) < v.items.length then numN p else -1
theorem part_cases {p : ByteArray} (h : partOk false p = true) : 0 < p.size ∧ ((keyOkB p = true ∧ 97 ≤ (bAt p 0).toNat) ∨ (keyOkB p = false ∧ indexB p = true ∧ (bAt p 0).toNat < 97)) := by
  unfold partOk at h
  cases hk : keyOkB p
  · rw [hk] at h
    have h : indexB p = true := by simpa using h
    have h1 := (idx_ref p).1 h
    have hp := dgB_pos h1.1
    have h2 := h1.1
    unfold dgB digs at h2
    simp only [Bool.and_eq_true] at h2
    have := digitB_iff.1 (allN_iff.1 h2.2 0 hp)
    exact ⟨hp, .inr ⟨rfl, h, by omega⟩⟩
  · have h2 := hk
    unfold keyOkB at h2
    simp only [Bool.and_eq_true, decide_eq_true_eq] at h2
    have := smallB_iff.1 h2.1.2
    exact ⟨h2.1.1.1, .inl ⟨rfl, this.1⟩⟩
theorem idx_digs {p : ByteArray} (h : indexB p = true) : digs p = true ∧ p.size ≤ 4 := by
  have h1 := (idx_ref p).1 h
  have h2 := h1.1
  unfold dgB at h2
  simp only [Bool.and_eq_true] at h2
  exact ⟨h2.2, by omega⟩
theorem zeroC (E : Env) : Dle (cx Tryz.prog mixed tyT_ok E) (.agg [i64 0, dB false, i64 0, dS ⟨#[]⟩, .v (.slice none 0 0), .v (.slice none 0 0)]) (encV .zero) :=
  Dle.agg ⟨Dle.refl _ _, Dle.refl _ _, Dle.refl _ _, Dle.refl _ _, Dle.rc (X := (cx Tryz.prog mixed tyT_ok E)) Dle.nil, Dle.nil (X := (cx Tryz.prog mixed tyT_ok E)), trivial⟩
theorem headI_ok {v : Vu} (h : headI v = 0) : Srt v.keys ∧ (v.kind = 6 → v.keys.length = v.items.length) := by
  have he := setl_eq v
  obtain ⟨h1, h2⟩ := head_ok (show headE (setl v) = 0 from h)
  have hk : (setl v).keys = v.keys := by rw [he]; rfl
  have hi : (setl v).items.length = v.items.length := by rw [he]; exact setlL_len _
  have hkd : (setl v).kind = skind v.kind := setl_kind v
  rw [hk] at h2
  refine ⟨srt_of fun k hk hk2 => (keysFrom_ok (v.keys.length + 1) v.keys 0 (by omega) h2 k (by omega) hk2).2 hk, fun h3 => ?_⟩
  unfold unusedP at h1
  rw [hk, hi, hkd, h3, show skind 6 = 6 from rfl] at h1
  omega
theorem item_head {v : Vu} (h : itemE v = 0) : headI v = 0 ∧ itemL v.items = 0 := by
  rw [itemE_eq] at h
  split at h
  · rename_i h1
    exact ⟨h1, h⟩
  · rename_i h1
    exact absurd h h1
theorem itemL_mem : ∀ (l : List Vu), itemL l = 0 → ∀ x ∈ l, itemE x = 0
  | [], _, x, hx => by cases hx
  | a :: l, h, x, hx => by
    rw [itemL] at h
    split at h
    · rename_i h1
      rcases List.mem_cons.1 hx with rfl | hx
      · exact h1
      · exact itemL_mem l h x hx
    · rename_i h1
      exact absurd h h1
theorem item_mem {v : Vu} (h : itemE v = 0) {k : Nat} (hk : k < v.items.length) : itemE (v.items.getD k .zero) = 0 := itemL_mem _ (item_head h).2 _ (getD_mem _ _ _ hk)
theorem item_keys {v : Vu} (h : itemE v = 0) : Srt v.keys ∧ (v.kind = 6 → v.keys.length = v.items.length) := headI_ok (item_head h).1
theorem step_lt {v : Vu} {p : ByteArray} (hl : v.kind = 6 → v.keys.length = v.items.length) : stepR v p < 0 ∨ ∃ m : Nat, stepR v p = m ∧ m < v.items.length := by
  unfold stepR
  split
  · split
    · rename_i h6
      rcases idxS_spec v.keys p (v.keys.length + 1) 0 (by omega) with ⟨h1, _⟩ | ⟨m, h1, h2, _⟩
      · exact .inl (by omega)
      · exact .inr ⟨m, h1, by have := hl h6; omega⟩
    · exact .inl (by omega)
  · split
    · rename_i h5
      exact .inr ⟨_, rfl, by omega⟩
    · exact .inl (by omega)
def followP (v : Vu) (p : ByteArray) : Option Vu := if stepR v p < 0 then none else some (v.items.getD (stepR v p).toNat .zero)
def getP : List ByteArray → Vu → Option Vu
  | [], v => some v
  | p :: r, v => match followP v p with
    | some x => getP r x
    | none => none
theorem getP_drop {l : List ByteArray} {k : Nat} {v : Vu} (h : k < l.length) : getP (l.drop k) v = match followP v (l.getD k ⟨#[]⟩) with | some x => getP (l.drop (k + 1)) x | none => none := by
  rw [drop_cons l ⟨#[]⟩ k h]; rfl
theorem getP_end {l : List ByteArray} {k : Nat} {v : Vu} (h : l.length ≤ k) : getP (l.drop k) v = some v := by rw [List.drop_of_length_le h]; rfl
section
variable (E : Env)
set_option maxRecDepth 100000
theorem index_sp (l : List ByteArray) (x : ByteArray) : Sp (cx Tryz.prog mixed tyT_ok E) 147 [encStrs l, dS x] (i64 (idxS l x 0)) := by
  obtain ⟨r, hr⟩ : ∃ r, r = idxS l x 0 := ⟨_, rfl⟩
  rw [← hr]
  refine Sp.body Tryz.func147 (by kernel_rfl) rfl (by kernel_rfl) (by kernel_rfl) (by kernel_rfl) ?_
  repeat' first
    | (refine facW_intro ?_; intro _)
    | refine Or.inl ?_
    | ((conv => whnf); first | (refine condW_dec ?_ ?_ <;> intro _) | refine condW_not ?_ | (refine condW_bool ?_ ?_ <;> intro _) | (refine nbC_t (fun _ => ?_) ?_) | (refine nbC_f ?_ (fun _ => ?_)))
    | refine And.intro (by first | omega | (simp only [Int.toNat_natCast] at *; omega) | (simp only [Nat.reduceAdd, Int.cast_ofNat_Int, true_and, and_true]; omega)  | kernel_rfl) ?_
    | refine RegW.run ?_
    | fail
  refine ⟨Nat, fun k => [(8, i64 k)], fun k => [], [], fun k => [], fun k => k ≤ l.length ∧ r = idxS l x k, fun k => l.length - k, ⟨0, ⟨by omega, hr⟩, ⟨[], ⟨by kernel_rfl, by kernel_rfl, by kernel_rfl, by kernel_rfl, by kernel_rfl, by kernel_rfl, by kernel_rfl⟩, (by repeat' first | exact trivial | exact rfl | kernel_rfl | exact Dle.of_eq rfl | exact MLe.of_eq rfl | exact Dle.i (by omega) | exact Dle.i (by simp only [Int.toNat_natCast] at *; omega) | exact Dle.nil | exact Dle.rc Dle.nil | exact Option.some_ne_none _ | exact Or.inl rfl | exact Or.inr trivial | omega | (simp only [Int.toNat_natCast] at *; omega) | (intro _ _ _ _; exact Dle.of_eq rfl) | refine And.intro ?_ ?_)⟩⟩, fun k hk => ?_⟩
  obtain ⟨hk, hK⟩ := hk
  repeat' first
    | (refine facW_intro ?_; intro _)
    | refine Or.inl ?_
    | ((conv => whnf); first | (refine condW_dec ?_ ?_ <;> intro _) | refine condW_not ?_ | (refine condW_bool ?_ ?_ <;> intro _) | (refine nbC_t (fun _ => ?_) ?_) | (refine nbC_f ?_ (fun _ => ?_)))
    | refine And.intro (by first | omega | (simp only [Int.toNat_natCast] at *; omega) | (simp only [Nat.reduceAdd, Int.cast_ofNat_Int, true_and, and_true]; omega)  | kernel_rfl) ?_
    | refine RegW.run ?_
    | fail
  all_goals first
    | exact ⟨k + 1, ⟨by omega, by rw [hK, idxS_next (by omega) (by simp only [Int.toNat_natCast] at *; first | assumption | (rw [show ((k : Int) - 1).toNat = k - 1 by omega] at *; assumption))]⟩, ⟨[], ⟨by kernel_rfl, by kernel_rfl, by kernel_rfl, by kernel_rfl, by kernel_rfl, by kernel_rfl, by kernel_rfl⟩, (by repeat' first | exact trivial | exact rfl | kernel_rfl | exact Dle.of_eq rfl | exact MLe.of_eq rfl | exact Dle.i (by omega) | exact Dle.i (by simp only [Int.toNat_natCast] at *; omega) | exact Dle.nil | exact Dle.rc Dle.nil | exact Option.some_ne_none _ | exact Or.inl rfl | exact Or.inr trivial | omega | (simp only [Int.toNat_natCast] at *; omega) | (intro _ _ _ _; exact Dle.of_eq rfl) | refine And.intro ?_ ?_)⟩, by first | omega | (dsimp only; omega)⟩
    | exact Dle.i (by rw [hK, idxS_at (by omega) (by simp only [Int.toNat_natCast] at *; first | assumption | (rw [show ((k : Int) - 1).toNat = k - 1 by omega] at *; assumption))])
    | exact Dle.i (by rw [hK, idxS_end (by omega)])
    | trace_state
set_option maxHeartbeats 1000000 in
theorem step_sp (v : Vu) (p : ByteArray) (h : partOk false p = true) : Sp (cx Tryz.prog mixed tyT_ok E) 131 [encV v, dS p] (i64 (stepR v p)) := by
  obtain ⟨hp, hc⟩ := part_cases h
  obtain ⟨r, hr⟩ : ∃ r, r = stepR v p := ⟨_, rfl⟩
  rw [← hr]
  unfold stepR at hr
  rcases hc with ⟨hk, hb⟩ | ⟨hk, hi, hb⟩
  · rw [if_pos hb] at hr
    refine Sp.body Tryz.func131 (by kernel_rfl) rfl (by kernel_rfl) (by kernel_rfl) (by kernel_rfl) ?_
    repeat' first
      | (refine facW_intro ?_; intro _)
      | refine Or.inl ?_
      | ((conv => whnf); first | (refine condW_dec ?_ ?_ <;> intro _) | refine condW_not ?_ | (refine condW_bool ?_ ?_ <;> intro _) | (refine nbC_t (fun _ => ?_) ?_) | (refine nbC_f ?_ (fun _ => ?_)))
      | refine And.intro (by first | omega | (simp only [Int.toNat_natCast] at *; omega) | (simp only [Nat.reduceAdd, Int.cast_ofNat_Int, true_and, and_true]; omega)  | kernel_rfl) ?_
      | refine RegW.run ?_
      | refine ⟨_, index_sp E _ _, ?_⟩
      | fail
    all_goals simp only [Int.toNat_zero] at *
    all_goals first
      | (exfalso; omega)
      | exact Dle.i (by rw [hr]; grind)
      | trace_state
  · rw [if_neg (by omega)] at hr
    obtain ⟨hd, h4⟩ := idx_digs hi
    refine Sp.body Tryz.func131 (by kernel_rfl) rfl (by kernel_rfl) (by kernel_rfl) (by kernel_rfl) ?_
    repeat' first
      | (refine facW_intro ?_; intro _)
      | refine Or.inl ?_
      | ((conv => whnf); first | (refine condW_dec ?_ ?_ <;> intro _) | refine condW_not ?_ | (refine condW_bool ?_ ?_ <;> intro _) | (refine nbC_t (fun _ => ?_) ?_) | (refine nbC_f ?_ (fun _ => ?_)))
      | refine And.intro (by first | omega | (simp only [Int.toNat_natCast] at *; omega) | (simp only [Nat.reduceAdd, Int.cast_ofNat_Int, true_and, and_true]; omega)  | kernel_rfl) ?_
      | refine RegW.run ?_
      | refine ⟨_, atoi_sp E _ hd hp h4, ?_⟩
      | fail
    all_goals simp only [Int.toNat_zero] at *
    all_goals first
      | (exfalso; omega)
      | exact Dle.i (by rw [hr]; grind)
      | trace_state
set_option maxHeartbeats 1000000 in
theorem refFollow_sp (v : Vu) (l : List ByteArray) (hs : ∀ p ∈ l, partOk false p = true) (hf : itemE v = 0) : Sp (cx Tryz.prog mixed tyT_ok E) 98 [encV v, encStrs l] (.tup [encV ((getP l v).getD .zero), dB (getP l v).isSome]) := by
  obtain ⟨o, ho⟩ : ∃ o, o = getP l v := ⟨_, rfl⟩
  rw [← ho]
  refine Sp.body Tryz.func98 (by kernel_rfl) rfl (by kernel_rfl) (by kernel_rfl) (by kernel_rfl) ?_
  repeat' first
    | (refine facW_intro ?_; intro _)
    | refine Or.inl ?_
    | ((conv => whnf); first | (refine condW_dec ?_ ?_ <;> intro _) | refine condW_not ?_ | (refine condW_bool ?_ ?_ <;> intro _) | (refine nbC_t (fun _ => ?_) ?_) | (refine nbC_f ?_ (fun _ => ?_)))
    | refine And.intro (by first | omega | (simp only [Int.toNat_natCast] at *; omega) | (simp only [Nat.reduceAdd, Int.cast_ofNat_Int, true_and, and_true]; omega)  | kernel_rfl) ?_
    | refine RegW.run ?_
    | fail
  refine ⟨Nat × Vu, fun k => [(11, i64 k.1)], fun k => [(2, .cells [i64 k.2.kind, dB k.2.b, i64 k.2.i, dS k.2.text, .rc (.vals k.2.items), encStrs k.2.keys])], [4], fun k => [], fun k => k.1 ≤ l.length ∧ itemE k.2 = 0 ∧ o = getP (l.drop k.1) k.2, fun k => l.length - k.1, ⟨(0, v), ⟨by omega, hf, ho⟩, ⟨[], ⟨by kernel_rfl, by kernel_rfl, by kernel_rfl, by kernel_rfl, by kernel_rfl, by kernel_rfl, by kernel_rfl⟩, (by repeat' first | exact trivial | exact rfl | kernel_rfl | exact Dle.of_eq rfl | exact MLe.of_eq rfl | exact Dle.i (by omega) | exact Dle.i (by simp only [Int.toNat_natCast] at *; omega) | exact Dle.nil | exact Dle.rc Dle.nil | exact Option.some_ne_none _ | exact Or.inl rfl | exact Or.inr trivial | omega | (simp only [Int.toNat_natCast] at *; omega) | (intro _ _ _ _; exact Dle.of_eq rfl) | refine And.intro ?_ ?_)⟩⟩, fun k hk => ?_⟩
  obtain ⟨h1, h2, h4⟩ := hk
  refine Or.inl ?_
  refine condW_dec ?_ ?_ <;> intro hlt
  · have hlt : k.1 < l.length := by omega
    have hp := hs _ (getD_mem l ⟨#[]⟩ k.1 hlt)
    have hsf := step_lt (p := l.getD k.1 ⟨#[]⟩) (item_keys h2).2
    have hc := step_sp E k.2 _ hp
    rw [getP_drop (by omega)] at h4
    unfold followP at h4
    generalize stepR k.2 (l.getD k.1 ⟨#[]⟩) = r at hsf hc h4
    rcases hsf with h5 | ⟨m, rfl, h5⟩
    · rw [if_pos h5] at h4
      have h4 : o = none := h4
      rw [h4]
      repeat' first
        | (refine facW_intro ?_; intro _)
        | refine Or.inl ?_
        | ((conv => whnf); first | (refine condW_dec ?_ ?_ <;> intro _) | refine condW_not ?_ | (refine condW_bool ?_ ?_ <;> intro _) | (refine nbC_t (fun _ => ?_) ?_) | (refine nbC_f ?_ (fun _ => ?_)))
        | refine And.intro (by first | omega | (simp only [Int.toNat_natCast] at *; omega) | (simp only [Nat.reduceAdd, Int.cast_ofNat_Int, true_and, and_true]; omega)  | kernel_rfl) ?_
        | refine RegW.run ?_
        | refine ⟨_, hc, ?_⟩
        | fail
      all_goals first
        | (exfalso; omega)
        | exact Dle.tup (X := (cx Tryz.prog mixed tyT_ok E)) ⟨zeroC E, Dle.refl _ _, trivial⟩
        | trace_state
    · rw [if_neg (by omega)] at h4
      have h4 : o = getP (l.drop (k.1 + 1)) (k.2.items.getD m .zero) := h4
      have hfm := item_mem h2 h5
      repeat' first
        | (refine facW_intro ?_; intro _)
        | refine Or.inl ?_
        | ((conv => whnf); first | (refine condW_dec ?_ ?_ <;> intro _) | refine condW_not ?_ | (refine condW_bool ?_ ?_ <;> intro _) | (refine nbC_t (fun _ => ?_) ?_) | (refine nbC_f ?_ (fun _ => ?_)))
        | refine And.intro (by first | omega | (simp only [Int.toNat_natCast] at *; omega) | (simp only [Nat.reduceAdd, Int.cast_ofNat_Int, true_and, and_true]; omega)  | kernel_rfl) ?_
        | refine RegW.run ?_
        | refine ⟨_, hc, ?_⟩
        | fail
      all_goals first
        | (exfalso; omega)
        | exact ⟨(k.1 + 1, k.2.items.getD m .zero), ⟨by dsimp only; omega, hfm, h4⟩, ⟨[], ⟨by kernel_rfl, by kernel_rfl, by kernel_rfl, by kernel_rfl, by kernel_rfl, by kernel_rfl, by kernel_rfl⟩, (by repeat' first | exact trivial | exact rfl | kernel_rfl | exact Dle.of_eq rfl | exact MLe.of_eq rfl | exact Dle.i (by omega) | exact Dle.i (by simp only [Int.toNat_natCast] at *; omega) | exact Dle.nil | exact Dle.rc Dle.nil | exact Option.some_ne_none _ | exact Or.inl rfl | exact Or.inr trivial | omega | (simp only [Int.toNat_natCast] at *; omega) | (intro _ _ _ _; exact Dle.of_eq rfl) | refine And.intro ?_ ?_)⟩, by first | omega | (dsimp only; omega)⟩
        | trace_state
  · have h5 := getP_end (l := l) (k := k.1) (v := k.2) (by omega)
    rw [h5] at h4
    rw [h4]
    repeat' first
      | (refine facW_intro ?_; intro _)
      | refine Or.inl ?_
      | ((conv => whnf); first | (refine condW_dec ?_ ?_ <;> intro _) | refine condW_not ?_ | (refine condW_bool ?_ ?_ <;> intro _) | (refine nbC_t (fun _ => ?_) ?_) | (refine nbC_f ?_ (fun _ => ?_)))
      | refine And.intro (by first | omega | (simp only [Int.toNat_natCast] at *; omega) | (simp only [Nat.reduceAdd, Int.cast_ofNat_Int, true_and, and_true]; omega)  | kernel_rfl) ?_
      | refine RegW.run ?_
      | fail
    exact Dle.tup (X := (cx Tryz.prog mixed tyT_ok E)) ⟨Dle.refl _ _, Dle.refl _ _, trivial⟩
end
end Go.Proofs.YthoemnhigboahaaGreatDoor
namespace Go.Proofs.YthoemnhigboahaaGreatDoor
open Go.RowKit
set_option linter.unusedVariables false
set_option linter.unusedSimpArgs false
section
variable (E : Env)
set_option maxRecDepth 100000
theorem zero_cells (i j : Nat) (hj : j < 6) : Dle (cx Tryz.prog mixed tyT_ok E) ((fun _ j => .v ((#[.int .i64 0, .bool false, .int .i64 0, .string ⟨#[]⟩, .slice none 0 0, .slice none 0 0] : Array Value).getD j undef)) i j) (Vu.zero.cell j) := by
  match j, hj with
  | 0, _ => exact Dle.refl _ _
  | 1, _ => exact Dle.refl _ _
  | 2, _ => exact Dle.refl _ _
  | 3, _ => exact Dle.refl _ _
  | 4, _ => exact Dle.rc (X := (cx Tryz.prog mixed tyT_ok E)) Dle.nil
  | 5, _ => exact Dle.nil (X := (cx Tryz.prog mixed tyT_ok E))
theorem cnt_flat (k : Int) (b : Bool) (i : Int) (t : ByteArray) (n : Nat) (ks : List ByteArray) : cnt (.mk k b i t (List.replicate n .zero) ks) = n + 1 := by
  have hz : cnt .zero = 1 := by simp [Vu.zero, cnt, cntL]
  have h1 : ∀ n, cntL (List.replicate n .zero) = n := by
    intro n
    induction n with
    | zero => rfl
    | succ n ih => rw [List.replicate_succ, cntL, ih, hz]; omega
  simp only [cnt, h1]
theorem checkR_sp (k : Int) (b : Bool) (i : Int) (t : ByteArray) (n : Nat) (F : Nat → Nat → DD) (ks : List ByteArray) (hn : n ≤ 999) (hF : ∀ i j, i < n → j < 6 → Dle (cx Tryz.prog mixed tyT_ok E) (F i j) (Vu.zero.cell j)) :
    Sp (cx Tryz.prog mixed tyT_ok E) 150 [.agg [i64 k, dB b, i64 i, dS t, .sl 6 88 n F, encStrs ks]] (i64 (headP k b i t n ks)) := by
  have h := check_sp E (.mk k b i t (List.replicate n .zero) ks) (by rw [cnt_flat]; omega)
  rw [check_flat k b i t n ks hn] at h
  refine h.args ⟨Dle.agg (X := (cx Tryz.prog mixed tyT_ok E)) ⟨Dle.refl _ _, Dle.refl _ _, Dle.refl _ _, Dle.refl _ _, Dle.rc (X := (cx Tryz.prog mixed tyT_ok E)) (Dle.sl (X := (cx Tryz.prog mixed tyT_ok E)) (by show n = (List.replicate n Vu.zero).length; simp) (fun i j hi hj => (hF i j hi hj).trans (Dle.of_eq ?_))), Dle.refl _ _, trivial⟩, trivial⟩
  show Vu.zero.cell j = ((List.replicate n Vu.zero).getD i .zero).cell j
  simp [List.getD, hi]
theorem checkN_sp (k : Int) (b : Bool) (i : Int) (t : ByteArray) (ks : List ByteArray) :
    Sp (cx Tryz.prog mixed tyT_ok E) 150 [.agg [i64 k, dB b, i64 i, dS t, .v (.slice none 0 0), encStrs ks]] (i64 (headP k b i t 0 ks)) :=
  (checkR_sp E k b i t 0 (fun _ _ => .opq) ks (by omega) (fun i j hi => by omega)).args ⟨Dle.agg (X := (cx Tryz.prog mixed tyT_ok E)) ⟨Dle.refl _ _, Dle.refl _ _, Dle.refl _ _, Dle.refl _ _, Dle.nil, Dle.refl _ _, trivial⟩, trivial⟩
theorem checkV_sp (v : Vu) (h : ¬ 0 < (v.items.length : Int)) : Sp (cx Tryz.prog mixed tyT_ok E) 150 [.agg [i64 v.kind, dB v.b, i64 v.i, dS v.text, .rc (.vals v.items), encStrs v.keys]] (i64 (headP v.kind v.b v.i v.text 0 v.keys)) := by
  have e : v = .mk v.kind v.b v.i v.text (List.replicate 0 .zero) v.keys := by
    have := v.eta
    rw [List.eq_nil_of_length_eq_zero (by omega : v.items.length = 0)] at this
    exact this
  have hc : cnt v = 1 := by rw [e]; simp [cnt, cntL]
  have h1 := check_sp E v (by omega)
  have h2 := check_flat v.kind v.b v.i v.text 0 v.keys (by omega)
  rw [← e] at h2
  rw [h2] at h1
  exact h1
set_option maxHeartbeats 1000000 in
theorem l_valueFault_sp (v : Vu) : Sp (cx Tryz.prog mixed tyT_ok E) 134 [encV v] (i64 (headI v)) := by
  have hP := headI_P v
  have hS : ∀ k, k = v.kind → skind v.kind = if k = 7 ∨ k = 8 then 3 else k := fun k e => by rw [e]; rfl
  refine Sp.body Tryz.func134 (by kernel_rfl) rfl (by kernel_rfl) (by kernel_rfl) (by kernel_rfl) ?_
  repeat' first
    | (refine facW_intro ?_; intro _)
    | refine Or.inl ?_
    | ((conv => whnf); first | (refine condW_dec ?_ ?_ <;> intro _) | refine condW_not ?_ | (refine condW_bool ?_ ?_ <;> intro _) | (refine nbC_t (fun _ => ?_) ?_) | (refine nbC_f ?_ (fun _ => ?_)))
    | refine And.intro (by first | omega | (simp only [Int.toNat_natCast] at *; omega) | (simp only [Nat.reduceAdd, Int.cast_ofNat_Int, true_and, and_true]; omega)  | kernel_rfl) ?_
    | refine RegW.run ?_
    | refine ⟨_, tableFault_sp E v (by omega), ?_⟩
    | refine ⟨_, checkN_sp E _ _ _ _ _, ?_⟩
    | refine ⟨_, checkV_sp E v (by assumption), ?_⟩
    | refine ⟨_, checkR_sp E _ _ _ _ _ _ _ (by omega) (fun i j _ hj => zero_cells E i j hj), ?_⟩
    | fail
  all_goals first
    | (exfalso; omega)
    | exact Dle.i (by rw [hP]; unfold headP skind; grind)
    | exact Dle.i (by rw [hP]; unfold skind; grind)
    | exact Dle.i (by rw [hP, hS _ rfl]; grind)
    | exact Dle.i (by rw [hP])
    | (simp only [Int.toNat_natCast] at *; exact Dle.i (by rw [hP]))
    | (simp only [Int.toNat_natCast] at *; exact Dle.i (by rw [hP]; unfold skind; grind))
theorem l_valuesFault_sp : ∀ (N : Nat) (v : Vu), SizeOf.sizeOf v < N → Sp (cx Tryz.prog mixed tyT_ok E) 112 [encV v] (i64 (itemE v))
  | 0, v, h => by omega
  | N + 1, v, h => by
    have ih := fun x (hx : x ∈ v.items) => l_valuesFault_sp N x (by have := items_lt v x hx; omega)
    refine Sp.body Tryz.func112 (by kernel_rfl) rfl (by kernel_rfl) (by kernel_rfl) (by kernel_rfl) ?_
    repeat' first
      | (refine facW_intro ?_; intro _)
      | refine Or.inl ?_
      | ((conv => whnf); first | (refine condW_dec ?_ ?_ <;> intro _) | refine condW_not ?_ | (refine condW_bool ?_ ?_ <;> intro _) | (refine nbC_t (fun _ => ?_) ?_) | (refine nbC_f ?_ (fun _ => ?_)))
      | refine And.intro (by first | omega | (simp only [Int.toNat_natCast] at *; omega) | (simp only [Nat.reduceAdd, Int.cast_ofNat_Int, true_and, and_true]; omega)  | kernel_rfl) ?_
      | refine RegW.run ?_
      | refine ⟨_, l_valueFault_sp E v, ?_⟩
      | fail
    · refine ⟨Nat, fun k => [(15, i64 k)], fun k => [], [], fun k => [], fun k => k ≤ v.items.length ∧ itemE v = itemL (v.items.drop k), fun k => v.items.length - k, ⟨0, ⟨by omega, by rw [itemE_eq, if_pos (by assumption)]; rfl⟩, ⟨[], ⟨by kernel_rfl, by kernel_rfl, by kernel_rfl, by kernel_rfl, by kernel_rfl, by kernel_rfl, by kernel_rfl⟩, (by repeat' first | exact trivial | exact rfl | kernel_rfl | exact Dle.of_eq rfl | exact MLe.of_eq rfl | exact Dle.i (by omega) | exact Dle.i (by simp only [Int.toNat_natCast] at *; omega) | exact Dle.nil | exact Dle.rc Dle.nil | exact Option.some_ne_none _ | exact Or.inl rfl | exact Or.inr trivial | omega | (simp only [Int.toNat_natCast] at *; omega) | (intro _ _ _ _; exact Dle.of_eq rfl) | refine And.intro ?_ ?_)⟩⟩, fun k hk => ?_⟩
      obtain ⟨hk, hK⟩ := hk
      refine Or.inl ?_
      refine condW_dec ?_ ?_
      · intro hlt
        have hlt : k < v.items.length := by omega
        repeat' first
          | (refine facW_intro ?_; intro _)
          | refine Or.inl ?_
          | ((conv => whnf); first | (refine condW_dec ?_ ?_ <;> intro _) | refine condW_not ?_ | (refine condW_bool ?_ ?_ <;> intro _) | (refine nbC_t (fun _ => ?_) ?_) | (refine nbC_f ?_ (fun _ => ?_)))
          | refine And.intro (by first | omega | (simp only [Int.toNat_natCast] at *; omega) | (simp only [Nat.reduceAdd, Int.cast_ofNat_Int, true_and, and_true]; omega)  | kernel_rfl) ?_
          | refine RegW.run ?_
          | refine ⟨_, ih _ (getD_mem v.items .zero k hlt), ?_⟩
          | fail
        · refine ⟨k + 1, ⟨by omega, ?_⟩, ⟨[], ⟨by kernel_rfl, by kernel_rfl, by kernel_rfl, by kernel_rfl, by kernel_rfl, by kernel_rfl, by kernel_rfl⟩, (by repeat' first | exact trivial | exact rfl | kernel_rfl | exact Dle.of_eq rfl | exact MLe.of_eq rfl | exact Dle.i (by omega) | exact Dle.i (by simp only [Int.toNat_natCast] at *; omega) | exact Dle.nil | exact Dle.rc Dle.nil | exact Option.some_ne_none _ | exact Or.inl rfl | exact Or.inr trivial | omega | (simp only [Int.toNat_natCast] at *; omega) | (intro _ _ _ _; exact Dle.of_eq rfl) | refine And.intro ?_ ?_)⟩, by first | omega | (dsimp only; omega)⟩
          rw [hK, itemL_drop hlt, if_pos (by simp only [Int.toNat_natCast] at *; first | assumption | (rw [show ((k : Int) - 1).toNat = k - 1 by omega] at *; assumption))]
        · refine Dle.i ?_
          rw [hK, itemL_drop hlt, if_neg (by simp only [Int.toNat_natCast] at *; first | assumption | (rw [show ((k : Int) - 1).toNat = k - 1 by omega] at *; assumption))]
          rfl
      · intro hge
        repeat' first
          | (refine facW_intro ?_; intro _)
          | refine Or.inl ?_
          | ((conv => whnf); first | (refine condW_dec ?_ ?_ <;> intro _) | refine condW_not ?_ | (refine condW_bool ?_ ?_ <;> intro _) | (refine nbC_t (fun _ => ?_) ?_) | (refine nbC_f ?_ (fun _ => ?_)))
          | refine And.intro (by first | omega | (simp only [Int.toNat_natCast] at *; omega) | (simp only [Nat.reduceAdd, Int.cast_ofNat_Int, true_and, and_true]; omega)  | kernel_rfl) ?_
          | refine RegW.run ?_
          | fail
        exact Dle.i (by rw [hK, itemL_end (by omega)])
    · exact Dle.i (by rw [itemE_eq, if_neg (by assumption)])
theorem checkItem_sp (v : Vu) (hb : cnt v ≤ 4611686018427387904) : Sp (cx Tryz.prog mixed tyT_ok E) 85 [encV v] (i64 (itemCheckE v)) := by
  have hl := lvl_le_cnt v
  have hc := cq_cnt 5000 v
  refine Sp.body Tryz.func85 (by kernel_rfl) rfl (by kernel_rfl) (by kernel_rfl) (by kernel_rfl) ?_
  repeat' first
    | (refine facW_intro ?_; intro _)
    | refine Or.inl ?_
    | ((conv => whnf); first | (refine condW_dec ?_ ?_ <;> intro _) | refine condW_not ?_ | (refine condW_bool ?_ ?_ <;> intro _) | (refine nbC_t (fun _ => ?_) ?_) | (refine nbC_f ?_ (fun _ => ?_)))
    | refine And.intro (by first | omega | (simp only [Int.toNat_natCast] at *; omega) | (simp only [Nat.reduceAdd, Int.cast_ofNat_Int, true_and, and_true]; omega)  | kernel_rfl) ?_
    | refine RegW.run ?_
    | refine ⟨_, l_count_sp E _ v (Nat.lt_succ_self _) hb, ?_⟩
    | refine ⟨_, l_levels_sp E _ v (Nat.lt_succ_self _) (by omega), ?_⟩
    | refine ⟨_, l_valuesFault_sp E _ v (Nat.lt_succ_self _), ?_⟩
    | fail
  all_goals exact Dle.i (by unfold itemCheckE; grind)
end
end Go.Proofs.YthoemnhigboahaaGreatDoor
namespace Go.Proofs.YthoemnhigboahaaGreatDoor
open Go.RowKit
set_option linter.unusedVariables false
set_option linter.unusedSimpArgs false
section
variable (E : Env)
set_option maxRecDepth 100000
set_option maxHeartbeats 1000000 in
theorem settled_sp : ∀ (N : Nat) (v : Vu), SizeOf.sizeOf v < N → cnt v ≤ 1000000000000 → Sp (cx Tryz.prog mixed tyT_ok E) 58 [encV v] (encV (setl v))
  | 0, v, h, _ => by omega
  | N + 1, v, h, hb => by
    have ih := fun x (hx : x ∈ v.items) => settled_sp N x (by have := items_lt v x hx; omega) (by have := cnt_mem v.items x hx; rw [cnt_eq] at hb; omega)
    have hlen : v.items.length ≤ 1000000000000 := by have := len_le_cntL v.items; rw [cnt_eq] at hb; omega
    have hS : (v.kind = 7 ∨ v.kind = 8 → skind v.kind = 3) ∧ (¬ (v.kind = 7 ∨ v.kind = 8) → skind v.kind = v.kind) := ⟨fun h => if_pos h, fun h => if_neg h⟩
    rw [setl_eq v, setlL_map]
    refine Sp.body Tryz.func58 (by kernel_rfl) rfl (by kernel_rfl) (by kernel_rfl) (by kernel_rfl) ?_
    repeat' first
      | (refine facW_intro ?_; intro _)
      | refine Or.inl ?_
      | ((conv => whnf); first | (refine condW_dec ?_ ?_ <;> intro _) | refine condW_not ?_ | (refine condW_bool ?_ ?_ <;> intro _) | (refine nbC_t (fun _ => ?_) ?_) | (refine nbC_f ?_ (fun _ => ?_)))
      | refine And.intro (by first | omega | (simp only [Int.toNat_natCast] at *; omega) | (simp only [Nat.reduceAdd, Int.cast_ofNat_Int, true_and, and_true]; omega)  | kernel_rfl) ?_
      | refine RegW.run ?_
      | fail
    all_goals
      refine ⟨Nat, fun k => [(20, i64 k)], fun k => [(3, .cells [i64 (skind v.kind), dB v.b, i64 v.i, dS v.text, .own 20 6 0 k, encStrs v.keys])], [1, 2], fun k => [(20, 30, k, fun i j => (setl (v.items.getD i .zero)).cell j)], fun k => k ≤ v.items.length, fun k => v.items.length - k, ⟨0, by omega, ⟨[(20, none)], ⟨by kernel_rfl, by kernel_rfl, by kernel_rfl, by kernel_rfl, by kernel_rfl, by kernel_rfl, by kernel_rfl⟩, (by repeat' first | exact trivial | exact rfl | kernel_rfl | exact Dle.of_eq rfl | exact MLe.of_eq rfl | exact Dle.i (by omega) | exact Dle.i (by simp only [Int.toNat_natCast] at *; omega) | exact Dle.nil | exact Dle.rc Dle.nil | exact Option.some_ne_none _ | exact Or.inl rfl | exact Or.inr trivial | omega | (simp only [Int.toNat_natCast] at *; omega) | (intro _ _ _ _; exact Dle.of_eq rfl) | refine And.intro ?_ ?_)⟩⟩, fun k hk => ?_⟩
      have hk : k ≤ v.items.length := hk
      repeat' first
        | (refine facW_intro ?_; intro _)
        | refine Or.inl ?_
        | ((conv => whnf); first | (refine condW_dec ?_ ?_ <;> intro _) | refine condW_not ?_ | (refine condW_bool ?_ ?_ <;> intro _) | (refine nbC_t (fun _ => ?_) ?_) | (refine nbC_f ?_ (fun _ => ?_)))
        | refine And.intro (by first | omega | (simp only [Int.toNat_natCast] at *; omega) | (simp only [Nat.reduceAdd, Int.cast_ofNat_Int, true_and, and_true]; omega)  | kernel_rfl) ?_
        | refine RegW.run ?_
        | refine ⟨_, ih _ (getD_mem v.items .zero k (by omega)), ?_⟩
        | fail
      · repeat' first
          | (refine facW_intro ?_; intro _)
          | refine Or.inl ?_
          | ((conv => whnf); first | (refine condW_dec ?_ ?_ <;> intro _) | refine condW_not ?_ | (refine condW_bool ?_ ?_ <;> intro _) | (refine nbC_t (fun _ => ?_) ?_) | (refine nbC_f ?_ (fun _ => ?_)))
          | refine And.intro (by first | omega | (simp only [Int.toNat_natCast] at *; omega) | (simp only [Nat.reduceAdd, Int.cast_ofNat_Int, true_and, and_true]; omega)  | kernel_rfl) ?_
          | refine RegW.run ?_
          | fail
        exact ⟨k + 1, by omega, ⟨[(20, some 29)], ⟨by kernel_rfl, by kernel_rfl, by kernel_rfl, by kernel_rfl, by kernel_rfl, by kernel_rfl, by kernel_rfl⟩, (by repeat' first | exact trivial | exact rfl | kernel_rfl | exact Dle.of_eq rfl | exact MLe.of_eq rfl | exact Dle.i (by omega) | exact Dle.i (by simp only [Int.toNat_natCast] at *; omega) | exact Dle.nil | exact Dle.rc Dle.nil | exact Option.some_ne_none _ | exact Or.inl rfl | exact Or.inr trivial | omega | (simp only [Int.toNat_natCast] at *; omega) | (intro _ _ _ _; exact Dle.of_eq rfl) | (intro i j hi hj; exact row_val E (fun i => setl (v.items.getD i .zero)) k i j hi hj) | refine And.intro ?_ ?_)⟩, by first | omega | (dsimp only; omega)⟩
      · have e : k = v.items.length := by omega
        subst e
        refine Dle.agg (X := (cx Tryz.prog mixed tyT_ok E)) ⟨Dle.refl _ _, Dle.refl _ _, Dle.refl _ _, Dle.refl _ _, Dle.rc (X := (cx Tryz.prog mixed tyT_ok E)) (Dle.sl (X := (cx Tryz.prog mixed tyT_ok E)) (show _ = (v.items.map setl).length by simp) (fun i j hi hj => Dle.of_eq ?_)), Dle.refl _ _, trivial⟩
        exact (cell_map setl v.items i j hi).symm
theorem refItem_sp (v : Vu) (hb : cnt v ≤ 1000000000000) : Sp (cx Tryz.prog mixed tyT_ok E) 22 [encV v] (i64 (itemCheckE v)) := by
  have hl := lvl_le_cnt v
  refine Sp.body Tryz.func22 (by kernel_rfl) rfl (by kernel_rfl) (by kernel_rfl) (by kernel_rfl) ?_
  repeat' first
    | (refine facW_intro ?_; intro _)
    | refine Or.inl ?_
    | ((conv => whnf); first | (refine condW_dec ?_ ?_ <;> intro _) | refine condW_not ?_ | (refine condW_bool ?_ ?_ <;> intro _) | (refine nbC_t (fun _ => ?_) ?_) | (refine nbC_f ?_ (fun _ => ?_)))
    | refine And.intro (by first | omega | (simp only [Int.toNat_natCast] at *; omega) | (simp only [Nat.reduceAdd, Int.cast_ofNat_Int, true_and, and_true]; omega)  | kernel_rfl) ?_
    | refine RegW.run ?_
    | refine ⟨_, valuesOf_sp E _ v (Nat.lt_succ_self _) (by omega), ?_⟩
    | refine ⟨_, levelsOf_sp E _ v (Nat.lt_succ_self _) (by omega), ?_⟩
    | refine ⟨_, settled_sp E _ v (Nat.lt_succ_self _) hb, ?_⟩
    | refine ⟨_, eachValue_sp E _ (setl v) (Nat.lt_succ_self _), ?_⟩
    | fail
  all_goals exact Dle.i (by unfold itemCheckE; rw [item_fault]; grind)
end
end Go.Proofs.YthoemnhigboahaaGreatDoor
namespace Go.Proofs.YthoemnhigboahaaGreatDoor
open Go.RowKit
set_option linter.unusedVariables false
set_option linter.unusedSimpArgs false
structure Lst where
  key : ByteArray
  number : Int
instance : Inhabited Lst := ⟨⟨⟨#[]⟩, 0⟩⟩
def Lst.cell (s : Lst) (j : Nat) : DD :=
  match j with
  | 0 => dS s.key
  | 1 => i64 s.number
  | _ => .opq
def encLs (l : List Lst) : DD := .sl 2 24 l.length (fun i j => (l.getD i default).cell j)
def lstOf (p : ByteArray) : Lst := if keyOkB p = true then ⟨p, 0⟩ else ⟨⟨#[]⟩, numN p⟩
def dw (s : ByteArray) (k : Nat) : Int := IntKind.u8.wrap (((bAt s k).toNat : Int) - 48)
theorem dw_eq {s : ByteArray} {k : Nat} (h : digitB (bAt s k) = true) : dw s k = ((bAt s k).toNat : Int) - 48 := by
  have := digitB_iff.1 h
  unfold dw
  simp only [IntKind.wrap, IntKind.bits, IntKind.signed]
  simp
  omega
def nv (s : ByteArray) : Nat → Int
  | 0 => 0
  | k + 1 => 10 * nv s k + dw s k
theorem nv_bound {s : ByteArray} : ∀ (k : Nat), allN k (fun i => digitB (bAt s i)) = true → 0 ≤ nv s k ∧ nv s k < 10 ^ k
  | 0, _ => by simp [nv]
  | k + 1, h => by
    have h1 := allN_iff.1 h
    obtain ⟨h2, h3⟩ := nv_bound k (allN_iff.2 fun i hi => h1 i (by omega))
    have h4 := dw_eq (h1 k (by omega))
    have h5 := digitB_iff.1 (h1 k (by omega))
    rw [nv, Int.pow_succ]
    omega
theorem nv_small {s : ByteArray} {k : Nat} (h : allN k (fun i => digitB (bAt s i)) = true) (hk : k ≤ 4) : 0 ≤ nv s k ∧ nv s k < 10000 := by
  obtain ⟨h1, h2⟩ := nv_bound k h
  have : (10 : Int) ^ k ≤ 10 ^ 4 := by
    match k, hk with
    | 0, _ => decide
    | 1, _ => decide
    | 2, _ => decide
    | 3, _ => decide
    | 4, _ => decide
  omega
theorem nv_num {s : ByteArray} (h : digs s = true) (h1 : s.size ≤ 4) : nv s s.size = numN s := by
  unfold digs at h
  have hd := allN_iff.1 h
  cases s with | mk d =>
  cases d with | mk l =>
  match l, h1, hd with
  | [], _, _ => rfl
  | [a], _, hd =>
    have g0 : digitB a = true := hd 0 (by decide : 0 < 1)
    have e0 : dw ⟨#[a]⟩ 0 = (a.toNat : Int) - 48 := dw_eq (s := ⟨#[a]⟩) (k := 0) g0
    have f0 := digitB_iff.1 g0
    show 10 * 0 + dw ⟨#[a]⟩ 0 = _
    rw [e0]
    unfold numN
    simp only [Lib.parseUint10]
    repeat (first | rw [if_pos (by omega)] | rw [if_neg (by omega)])
    simp only
    omega
  | [a, b], _, hd =>
    have g0 : digitB a = true := hd 0 (by decide : 0 < 2)
    have g1 : digitB b = true := hd 1 (by decide : 1 < 2)
    have e0 : dw ⟨#[a, b]⟩ 0 = (a.toNat : Int) - 48 := dw_eq (s := ⟨#[a, b]⟩) (k := 0) g0
    have e1 : dw ⟨#[a, b]⟩ 1 = (b.toNat : Int) - 48 := dw_eq (s := ⟨#[a, b]⟩) (k := 1) g1
    have f0 := digitB_iff.1 g0
    have f1 := digitB_iff.1 g1
    show 10 * (10 * 0 + dw ⟨#[a, b]⟩ 0) + dw ⟨#[a, b]⟩ 1 = _
    rw [e0, e1]
    unfold numN
    simp only [Lib.parseUint10]
    repeat (first | rw [if_pos (by omega)] | rw [if_neg (by omega)])
    simp only
    omega
  | [a, b, c], _, hd =>
    have g0 : digitB a = true := hd 0 (by decide : 0 < 3)
    have g1 : digitB b = true := hd 1 (by decide : 1 < 3)
    have g2 : digitB c = true := hd 2 (by decide : 2 < 3)
    have e0 : dw ⟨#[a, b, c]⟩ 0 = (a.toNat : Int) - 48 := dw_eq (s := ⟨#[a, b, c]⟩) (k := 0) g0
    have e1 : dw ⟨#[a, b, c]⟩ 1 = (b.toNat : Int) - 48 := dw_eq (s := ⟨#[a, b, c]⟩) (k := 1) g1
    have e2 : dw ⟨#[a, b, c]⟩ 2 = (c.toNat : Int) - 48 := dw_eq (s := ⟨#[a, b, c]⟩) (k := 2) g2
    have f0 := digitB_iff.1 g0
    have f1 := digitB_iff.1 g1
    have f2 := digitB_iff.1 g2
    show 10 * (10 * (10 * 0 + dw ⟨#[a, b, c]⟩ 0) + dw ⟨#[a, b, c]⟩ 1) + dw ⟨#[a, b, c]⟩ 2 = _
    rw [e0, e1, e2]
    unfold numN
    simp only [Lib.parseUint10]
    repeat (first | rw [if_pos (by omega)] | rw [if_neg (by omega)])
    simp only
    omega
  | [a, b, c, e], _, hd =>
    have g0 : digitB a = true := hd 0 (by decide : 0 < 4)
    have g1 : digitB b = true := hd 1 (by decide : 1 < 4)
    have g2 : digitB c = true := hd 2 (by decide : 2 < 4)
    have g3 : digitB e = true := hd 3 (by decide : 3 < 4)
    have e0 : dw ⟨#[a, b, c, e]⟩ 0 = (a.toNat : Int) - 48 := dw_eq (s := ⟨#[a, b, c, e]⟩) (k := 0) g0
    have e1 : dw ⟨#[a, b, c, e]⟩ 1 = (b.toNat : Int) - 48 := dw_eq (s := ⟨#[a, b, c, e]⟩) (k := 1) g1
    have e2 : dw ⟨#[a, b, c, e]⟩ 2 = (c.toNat : Int) - 48 := dw_eq (s := ⟨#[a, b, c, e]⟩) (k := 2) g2
    have e3 : dw ⟨#[a, b, c, e]⟩ 3 = (e.toNat : Int) - 48 := dw_eq (s := ⟨#[a, b, c, e]⟩) (k := 3) g3
    have f0 := digitB_iff.1 g0
    have f1 := digitB_iff.1 g1
    have f2 := digitB_iff.1 g2
    have f3 := digitB_iff.1 g3
    show 10 * (10 * (10 * (10 * 0 + dw ⟨#[a, b, c, e]⟩ 0) + dw ⟨#[a, b, c, e]⟩ 1) + dw ⟨#[a, b, c, e]⟩ 2) + dw ⟨#[a, b, c, e]⟩ 3 = _
    rw [e0, e1, e2, e3]
    unfold numN
    simp only [Lib.parseUint10]
    repeat (first | rw [if_pos (by omega)] | rw [if_neg (by omega)])
    simp only
    omega
theorem scan_step {s : ByteArray} {f i : Nat} (hi : i ≤ s.size) (h : i < s.size → bAt s i = 46) : scan s f i = s.extract f i :: (if i + 1 ≤ s.size then scan s (i + 1) (i + 1) else []) := by
  rcases Nat.lt_or_ge i s.size with h1 | h1
  · rw [scan_dot h1 (h h1), if_pos (by omega)]
  · rw [scan_end (by omega), if_neg (by omega), show i = s.size by omega]
section
variable (E : Env)
theorem row_lst (f : Nat → Lst) (k i j : Nat) (c : Lst) (hc : f k = c) (hi : i < k + 1) (hj : j < 2) : Dle (cx Tryz.prog mixed tyT_ok E) (if i < k then (f i).cell j else ([dS c.key, i64 c.number] : List DD).getD ((i - k + 0) * 2 + j) .opq) ((f i).cell j) :=
  row_one (X := (cx Tryz.prog mixed tyT_ok E)) (f := fun i j => (f i).cell j) (g := fun i j => (f i).cell j) (fun _ _ _ _ => Dle.refl _ _) (fun j hj => by
    show Dle _ _ ((f k).cell j)
    rw [hc]
    match j, hj with
    | 0, _ => exact Dle.refl _ _
    | 1, _ => exact Dle.refl _ _) i j hi hj
end
end Go.Proofs.YthoemnhigboahaaGreatDoor
