/-
  A string's parts between points, found by going along it: plain law.
-/
import Derived.Test.YtagggnjcpjodjaaDoorN2
import Derived.Lib.SplitLaws
import Derived.Lib.CutLaws
namespace Go.Proofs.YtagggnjcpjodjaaDoor
open Go.RowKit
set_option linter.unusedVariables false
/-- The pieces of a string. -/
def pcs (s sep : ByteArray) : List ByteArray := Lib.splitB sep 0 (Lib.countB s sep) s
theorem pcs_size (sep : ByteArray) : ∀ (k : Nat) (s x : ByteArray), x ∈ Lib.splitB sep 0 k s → x.size ≤ s.size
  | 0, s, x, h => by
    rw [Lib.splitB_zero] at h
    simp at h
    rw [h]
    exact Nat.le_refl _
  | k + 1, s, x, h => by
    unfold Lib.splitB at h
    split at h
    · simp at h
      rw [h]
      exact Nat.le_refl _
    · rcases List.mem_cons.1 h with h | h
      · rw [h, ByteArray.size_extract]
        omega
      · have := pcs_size sep k _ x h
        rw [ByteArray.size_extract] at this
        omega
theorem pcs_le {s sep x : ByteArray} (h : x ∈ pcs s sep) : x.size ≤ s.size := pcs_size _ _ _ _ h
theorem pcs_len (s sep : ByteArray) (h1 : 1 ≤ sep.size) : (pcs s sep).length = Lib.countB s sep + 1 := Lib.splitB_all sep h1 0 _ s rfl
theorem pcs_len_le (s : ByteArray) : (pcs s ⟨#[46]⟩).length ≤ s.size + 1 := by
  rw [pcs_len s _ (by decide)]
  have := Lib.countB_le ⟨#[46]⟩ (by decide) _ s (Nat.le_refl _)
  omega
/-- The parts from a place on; the part that is open begins at 'from'. -/
def scan (s : ByteArray) (f i : Nat) : List ByteArray :=
  if i < s.size then (if bAt s i = 46 then s.extract f i :: scan s (i + 1) (i + 1) else scan s f (i + 1)) else [s.extract f s.size]
  termination_by s.size - i
theorem scan_end {s : ByteArray} {f i : Nat} (h : ¬ i < s.size) : scan s f i = [s.extract f s.size] := by rw [scan, if_neg h]
theorem scan_dot {s : ByteArray} {f i : Nat} (h : i < s.size) (h2 : bAt s i = 46) : scan s f i = s.extract f i :: scan s (i + 1) (i + 1) := by rw [scan, if_pos h, if_pos h2]
theorem scan_next {s : ByteArray} {f i : Nat} (h : i < s.size) (h2 : ¬ bAt s i = 46) : scan s f i = scan s f (i + 1) := by rw [scan, if_pos h, if_neg h2]
theorem ext_at (s : ByteArray) (f k : Nat) (h : f + k < s.size) : (s.extract f s.size).data.toList[k]? = some (bAt s (f + k)) := by
  unfold bAt
  have e : (s.extract f s.size).data.toList = s.data.toList.drop f := by
    simp [ByteArray.data_extract]
    exact List.take_of_length_le (by simp)
  rw [e, List.getElem?_drop, List.getD]
  have : f + k < s.data.toList.length := by simpa using h
  rw [List.getElem?_eq_getElem this]
  rfl
theorem ext_ext (s : ByteArray) (a b : Nat) : (s.extract a s.size).extract b (s.extract a s.size).size = s.extract (a + b) s.size := by
  apply ByteArray.ext
  simp only [ByteArray.data_extract, Array.extract_extract, ByteArray.size_extract]
  congr 1
  omega
theorem ext_pre (s : ByteArray) (a b : Nat) (h : a + b ≤ s.size) : (s.extract a s.size).extract 0 b = s.extract a (a + b) := by
  apply ByteArray.ext
  simp only [ByteArray.data_extract, Array.extract_extract]
  congr 1
  omega
theorem scan_pcs (s : ByteArray) : ∀ (n f i : Nat), s.size - i < n → f ≤ i → i ≤ s.size → (∀ k, f ≤ k → k < i → ¬ bAt s k = 46) → scan s f i = pcs (s.extract f s.size) ⟨#[46]⟩
  | 0, f, i, h, _, _, _ => by omega
  | n + 1, f, i, h, hf, hi, hno => by
    rcases Nat.lt_or_ge i s.size with h1 | h1
    · by_cases h2 : bAt s i = 46
      · rw [scan_dot h1 h2]
        have hx : Lib.indexB (s.extract f s.size) ⟨#[46]⟩ = ((i - f : Nat) : Int) := by
          rw [show Lib.indexB (s.extract f s.size) ⟨#[46]⟩ = Lib.indexByte (s.extract f s.size).data.toList 46 from Lib.index_one _ _]
          have h3 := ext_at s f (i - f) (by omega)
          rw [show f + (i - f) = i by omega, h2] at h3
          have hc := Lib.indexB_cases (s.extract f s.size) ⟨#[46]⟩
          rw [show Lib.indexB (s.extract f s.size) ⟨#[46]⟩ = Lib.indexByte (s.extract f s.size).data.toList 46 from Lib.index_one _ _] at hc
          rcases hc with h4 | ⟨o, h4, h5⟩
          · exact absurd h3 (Lib.indexByte_none h4 _)
          · rw [h4]
            obtain ⟨h6, h7⟩ := Lib.indexByte_some h4
            rcases Nat.lt_trichotomy o (i - f) with h8 | h8 | h8
            · rw [ext_at s f o (by omega)] at h6
              injection h6 with h6
              exact absurd h6 (hno _ (by omega) (by omega))
            · rw [h8]
            · exact absurd h3 (h7 _ h8)
        unfold pcs
        rw [Lib.countB_hit _ _ _ (by decide) hx, Nat.add_comm 1, Lib.splitB_hit _ _ _ _ _ hx]
        have e1 : (s.extract f s.size).extract 0 (i - f + 0) = s.extract f i := by rw [Nat.add_zero, ext_pre s f (i - f) (by omega), show f + (i - f) = i by omega]
        have e2 : (s.extract f s.size).extract (i - f + (⟨#[46]⟩ : ByteArray).size) (s.extract f s.size).size = s.extract (i + 1) s.size := by
          rw [ext_ext, show f + (i - f + (⟨#[46]⟩ : ByteArray).size) = i + 1 by show f + (i - f + 1) = i + 1; omega]
        rw [e1, e2]
        congr 1
        exact scan_pcs s n (i + 1) (i + 1) (by omega) (Nat.le_refl _) (by omega) (fun k h3 h4 => by omega)
      · rw [scan_next h1 h2]
        refine scan_pcs s n f (i + 1) (by omega) (by omega) (by omega) (fun k h3 h4 => ?_)
        rcases Nat.lt_or_ge k i with h5 | h5
        · exact hno k h3 h5
        · obtain rfl : k = i := by omega
          exact h2
    · rw [scan_end (by omega)]
      have hx : Lib.indexB (s.extract f s.size) ⟨#[46]⟩ = -1 := by
        have hc := Lib.indexB_cases (s.extract f s.size) ⟨#[46]⟩
        rw [show Lib.indexB (s.extract f s.size) ⟨#[46]⟩ = Lib.indexByte (s.extract f s.size).data.toList 46 from Lib.index_one _ _] at hc ⊢
        rcases hc with h4 | ⟨o, h4, h5⟩
        · exact h4
        · exfalso
          obtain ⟨h6, _⟩ := Lib.indexByte_some h4
          have h5 : o + 1 ≤ (s.extract f s.size).size := h5
          rw [ByteArray.size_extract] at h5
          rw [ext_at s f o (by omega)] at h6
          injection h6 with h6
          exact absurd h6 (hno _ (by omega) (by omega))
      unfold pcs
      rw [Lib.countB_miss _ _ hx, Lib.splitB_zero]
theorem scan_all (s : ByteArray) : scan s 0 0 = pcs s ⟨#[46]⟩ := by
  rw [scan_pcs s (s.size + 1) 0 0 (by omega) (Nat.le_refl _) (Nat.zero_le _) (fun k h3 h4 => by omega)]
  have : s.extract 0 s.size = s := by
    apply ByteArray.ext
    simp
  rw [this]
end Go.Proofs.YtagggnjcpjodjaaDoor
