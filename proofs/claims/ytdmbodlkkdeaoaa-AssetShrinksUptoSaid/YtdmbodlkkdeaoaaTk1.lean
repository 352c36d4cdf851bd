/-
  Tokens: the first byte that cannot be there, found among runes; the places of ends.
-/
import Derived.Test.YtdmbodlkkdeaoaaTk0
import Derived.Shelf.GgClosure.StringsIndexFunc
import Derived.Laws.RangeAny
import Derived.Lib.IndexMore
namespace Go.Proofs.Ytdmbodlkkdeaoaa.tk
open Go.RowKit
set_option linter.unusedVariables false
set_option linter.unusedSimpArgs false
theorem get_at (s : ByteArray) (k : Nat) (h : k < s.size) : (s.get! k).toNat = at_ s k := by
  unfold at_
  cases s with
  | mk a =>
    have h' : k < a.size := h
    have e : (ByteArray.mk a).get! k = a[k] := getElem!_pos a k h'
    rw [e]
    simp [bAt, List.getD, h']
theorem dec_cont (s : ByteArray) (i : Nat) (hi : i < s.size) : i + (Utf8.decode s i).2 ≤ s.size ∧ ∀ k, i < k → k < i + (Utf8.decode s i).2 → 128 ≤ at_ s k := by
  have c1 : ∀ k, (decide (i + k < s.size) && (s.get! (i + k)).toNat / 64 == 2) = true → i + k < s.size ∧ 128 ≤ at_ s (i + k) := fun k h => by
    simp only [Bool.and_eq_true, decide_eq_true_eq, beq_iff_eq] at h
    rw [get_at s _ h.1] at h
    omega
  have small : ∀ r : Nat, i + (r, 1).2 ≤ s.size ∧ ∀ k, i < k → k < i + (r, 1).2 → 128 ≤ at_ s k := fun r => ⟨by show i + 1 ≤ _; omega, fun k h1 h2 => by exfalso; dsimp only at h2; omega⟩
  unfold Utf8.decode
  dsimp only
  split
  · exact small _
  · split
    · rename_i h
      rw [Bool.and_eq_true] at h
      have h1 := c1 1 h.2
      split
      · refine ⟨by dsimp only; omega, fun k hk hk2 => ?_⟩
        dsimp only at hk2
        obtain rfl : k = i + 1 := by omega
        exact h1.2
      · exact small _
    · split
      · rename_i h
        rw [Bool.and_eq_true, Bool.and_eq_true] at h
        have h1 := c1 1 h.1.2
        have h2 := c1 2 h.2
        split
        · refine ⟨by dsimp only; omega, fun k hk hk2 => ?_⟩
          dsimp only at hk2
          rcases (show k = i + 1 ∨ k = i + 2 by omega) with rfl | rfl
          · exact h1.2
          · exact h2.2
        · exact small _
      · split
        · rename_i h
          rw [Bool.and_eq_true, Bool.and_eq_true, Bool.and_eq_true] at h
          have h1 := c1 1 h.1.1.2
          have h2 := c1 2 h.1.2
          have h3 := c1 3 h.2
          split
          · refine ⟨by dsimp only; omega, fun k hk hk2 => ?_⟩
            dsimp only at hk2
            rcases (show k = i + 1 ∨ k = i + 2 ∨ k = i + 3 by omega) with rfl | rfl | rfl
            · exact h1.2
            · exact h2.2
            · exact h3.2
          · exact small _
        · exact small _
theorem bad_high {r : Nat} (h : 128 ≤ r) : badB r = false := by
  unfold badB
  simp only [Bool.or_eq_false_iff, Bool.and_eq_false_iff, decide_eq_false_iff_not]
  exact ⟨.inl (by omega), by omega⟩
theorem idx_chk (s : ByteArray) : ∀ (f pos : Nat), s.size ≤ pos + f → Lib.idxFuncFrom badB true s f pos = chk s pos s.size
  | 0, pos, h => by
    rw [chk_end (by omega)]; rfl
  | f + 1, pos, h => by
    by_cases hp : pos < s.size
    · rw [Lib.idxFuncFrom, if_pos hp]
      have e : (s[pos]'hp).toNat = at_ s pos := by unfold at_; rw [bAt_eq]
      by_cases hb : at_ s pos < 128
      · have hd := decode_ascii s pos hp (by omega)
        rw [hd, e]
        cases h2 : badB (at_ s pos)
        · rw [if_neg (by simp), chk_ok hp h2]
          exact idx_chk s f (pos + 1) (by omega)
        · rw [if_pos rfl, chk_bad hp h2]
      · obtain ⟨h1, h2⟩ := decode_high s pos hp (by omega)
        obtain ⟨h3, h4⟩ := dec_cont s pos hp
        rw [bad_high h1, if_neg (by simp), idx_chk s f _ (by omega)]
        refine (chk_skip (by omega) (fun k hk hk2 => bad_high ?_) h3).symm
        by_cases hkp : k = pos
        · subst hkp; omega
        · exact h4 k (by omega) hk2
    · rw [Lib.idxFuncFrom_end _ _ _ _ _ hp, chk_end (by omega)]
theorem idx_all (s : ByteArray) : Lib.idxFunc badB true s = chk s 0 s.size := idx_chk s s.size 0 (by omega)
/-! ## The places of ends -/
def ends2 : ByteArray := ⟨#[42, 47]⟩
def ixE (s : ByteArray) (j : Nat) : Int := Lib.index (s.extract j s.size).data.toList ends2.data.toList
def ibE (s : ByteArray) (j : Nat) : Int := Lib.indexByte (s.extract j s.size).data.toList 10
theorem ext_len (s : ByteArray) (j : Nat) : (s.extract j s.size).data.toList.length = s.size - j := by
  rw [Array.length_toList]
  show (s.extract j s.size).size = _
  rw [ByteArray.size_extract]; omega
theorem ext_get (s : ByteArray) (f k : Nat) (h : f + k < s.size) : (s.extract f s.size).data.toList[k]? = some (bAt s (f + k)) := by
  have h1 : (s.extract f s.size).data.toList = (s.data.toList.take s.size).drop f := by
    simp [ByteArray.extract, ByteArray.copySlice, List.drop_take]
    try omega
  rw [h1, List.getElem?_drop, List.getElem?_take, if_pos h]
  have h2 : f + k < s.data.toList.length := by rw [Array.length_toList]; exact h
  simp [bAt, List.getD, List.getElem?_eq_getElem h2]
theorem ixE_or (s : ByteArray) (j : Nat) (hj : j ≤ s.size) : ixE s j = -1 ∨ (0 ≤ ixE s j ∧ ixE s j + 2 + j ≤ s.size) := by
  have h1 := Lib.index_ge (s.extract j s.size).data.toList ends2.data.toList
  have h2 := Lib.index_room (s.extract j s.size).data.toList ends2.data.toList
  rw [ext_len] at h2
  have h3 : ends2.data.toList.length = 2 := rfl
  rw [h3] at h2
  unfold ixE
  omega
theorem ibE_or (s : ByteArray) (j : Nat) (hj : j < s.size) (hn : at_ s j ≠ 10) : ibE s j = -1 ∨ (1 ≤ ibE s j ∧ ibE s j + j < s.size) := by
  have h1 := Lib.indexByte_ge (s.extract j s.size).data.toList 10
  unfold ibE
  rcases Int.lt_or_le (Lib.indexByte (s.extract j s.size).data.toList 10) 0 with h | h
  · exact .inl (by omega)
  · obtain ⟨o, ho⟩ := Int.eq_ofNat_of_zero_le h
    obtain ⟨h2, _⟩ := Lib.indexByte_some ho
    have h3 := (List.getElem?_eq_some_iff.1 h2).1
    rw [ext_len] at h3
    refine .inr ⟨?_, by omega⟩
    rcases Nat.eq_zero_or_pos o with h0 | h0
    · subst h0
      rw [ext_get s j 0 (by omega)] at h2
      injection h2 with h2
      exact absurd (by unfold at_; rw [show j = j + 0 from rfl, h2]; rfl) hn
    · omega
def cmE (s : ByteArray) (sc : Bool) (i : Nat) : Int := cm ixE ibE s sc i
theorem cmE_ok (s : ByteArray) (sc : Bool) : CmOk cmE s sc := by
  intro i hi
  unfold cmE cm
  by_cases h : hasP s i 47 42 = true
  · rw [if_pos h]
    have h0 : i + 2 ≤ s.size := by
      unfold hasP at h
      simp only [Bool.and_eq_true, decide_eq_true_eq] at h
      exact h.1
    have h3 := ixE_or s (i + 2) h0
    split <;> omega
  · rw [if_neg h]
    by_cases h4 : (sc && hasP s i 47 47) = true
    · rw [if_pos h4]
      have h5 : at_ s i = 47 := by
        unfold hasP at h4
        simp only [Bool.and_eq_true, decide_eq_true_eq] at h4
        exact h4.2.2.1
      have h6 := ibE_or s i hi (by omega)
      split <;> omega
    · rw [if_neg h4]
      exact .inl rfl
end Go.Proofs.Ytdmbodlkkdeaoaa.tk
