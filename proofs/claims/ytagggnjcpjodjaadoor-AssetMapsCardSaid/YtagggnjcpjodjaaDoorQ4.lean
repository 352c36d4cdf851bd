/-
  Trimming; the reference's keys and bytes.
-/
import Derived.Test.YtagggnjcpjodjaaDoorShelf
import Derived.Test.YtagggnjcpjodjaaDoorTrim
import Derived.Test.YtagggnjcpjodjaaDoorQ3
namespace Go.Proofs.YtagggnjcpjodjaaDoor
open Go.RowKit
set_option linter.unusedVariables false
set_option linter.unusedSimpArgs false

theorem trim_len (l cs : List UInt8) : (Lib.trimS l cs).length ≤ l.length := by
  unfold Lib.trimS Lib.trimLeftS Lib.trimRightS
  have h1 := (List.dropWhile_sublist (cs.contains ·) (l := l.reverse)).length_le
  have h2 := (List.dropWhile_sublist (cs.contains ·) (l := (l.reverse.dropWhile (cs.contains ·)).reverse)).length_le
  simp at *
  omega
/-- strings.Trim's answer. -/
def trimV (s cs : ByteArray) : ByteArray := ⟨(Lib.trimS s.data.toList cs.data.toList).toArray⟩
theorem toList_data (s : ByteArray) : s.toList = s.data.toList := by rw [ByteArray.toList_eq]
theorem trimV_nil (s cs : ByteArray) : trimV s cs = ⟨#[]⟩ ↔ ∀ k, k < s.size → cs.data.toList.contains (bAt s k) = true := by
  have h1 : trimV s cs = ⟨#[]⟩ ↔ (Lib.trimS s.data.toList cs.data.toList).isEmpty = true := by
    unfold trimV
    constructor
    · intro h
      injection h with h
      have := congrArg Array.toList h
      simp only [List.isEmpty_iff]
      exact this
    · intro h
      rw [List.isEmpty_iff] at h
      rw [h]
  rw [h1, trim_nil, List.all_eq_true]
  constructor
  · intro h k hk
    refine h _ ?_
    have : k < s.data.toList.length := by simpa using hk
    have e : bAt s k = s.data.toList[k] := by
      unfold bAt
      simp [List.getD, List.getElem?_eq_getElem this, -Array.getElem?_toList]
    rw [e]
    exact List.getElem_mem this
  · intro h b hb
    obtain ⟨k, hk, rfl⟩ := List.getElem_of_mem hb
    have hk' : k < s.size := by simpa using hk
    have e : bAt s k = s.data.toList[k] := by
      unfold bAt
      simp [List.getD, List.getElem?_eq_getElem hk, -Array.getElem?_toList]
    rw [← e]
    exact h k hk'
section
variable (E : Env)
set_option maxRecDepth 100000
theorem trim_sp (s cs : ByteArray) (hcs : cs.size < 4294967281) (ha : cs.data.toList.all (fun b => decide (b.toNat < 128)) = true) : Sp (cx Tryd.prog mixed tyT_ok E) 59 [dS s, dS cs] (dS (trimV s cs)) := by
  refine Sp.of_v2 (vs := [.string s, .string cs]) ⟨_, _, Tryd.func59, by kernel_rfl, rfl⟩ ?_ ?_
  · intro h
    have h1 := h (.string s) (by simp)
    have h2 := trim_len s.data.toList cs.data.toList
    have : (trimV s cs).size ≤ s.size := h2
    exact decide_eq_true (Nat.le_trans this (of_decide_eq_true h1))
  · intro w _ h
    have h1 := h (.string s) (by simp)
    have h1 : s.size ≤ 9223372036854775807 := of_decide_eq_true h1
    have hcon := Any.strings_Trim_laid Tryd.lays160 (by kernel_rfl) s cs w h1 hcs (ascii_of_all ha)
    exact Calls.mono hcon fun e w' ⟨he, hb⟩ => ⟨he, hb⟩
/-- The bytes of a key. -/
theorem kch_set : ∀ n : Fin 256, kchB (UInt8.ofNat n.val) = ([97, 98, 99, 100, 101, 102, 103, 104, 105, 106, 107, 108, 109, 110, 111, 112, 113, 114, 115, 116, 117, 118, 119, 120, 121, 122, 48, 49, 50, 51, 52, 53, 54, 55, 56, 57, 45, 95] : List UInt8).contains (UInt8.ofNat n.val) := by decide +kernel
theorem kch_eq (b : UInt8) : kchB b = ([97, 98, 99, 100, 101, 102, 103, 104, 105, 106, 107, 108, 109, 110, 111, 112, 113, 114, 115, 116, 117, 118, 119, 120, 121, 122, 48, 49, 50, 51, 52, 53, 54, 55, 56, 57, 45, 95] : List UInt8).contains b := by
  have h := kch_set ⟨b.toNat, b.toNat_lt⟩
  simp only [UInt8.ofNat_toNat] at h
  exact h
theorem keyOkB_trim {s : ByteArray} (h0 : 0 < s.size) (h1 : ¬ (40 : Int) < s.size) (h2 : smallB (bAt s 0) = true) : keyOkB s = decide (trimV s ⟨#[97, 98, 99, 100, 101, 102, 103, 104, 105, 106, 107, 108, 109, 110, 111, 112, 113, 114, 115, 116, 117, 118, 119, 120, 121, 122, 48, 49, 50, 51, 52, 53, 54, 55, 56, 57, 45, 95]⟩ = ⟨#[]⟩) := by
  rw [Bool.eq_iff_iff, decide_eq_true_eq, trimV_nil]
  unfold keyOkB
  simp only [kch_eq, Bool.and_eq_true, allN_iff, decide_eq_true_eq]
  exact ⟨fun h => h.2, fun h => ⟨⟨⟨h0, by omega⟩, h2⟩, h⟩⟩
end
end Go.Proofs.YtagggnjcpjodjaaDoor
