/-
  Source sets of images: plain law.
-/
import Derived.Test.YtagggnjcpjodjaaDoorPa0
import Derived.Test.YtagggnjcpjodjaaDoorM0
namespace Go.Proofs.YtagggnjcpjodjaaDoor
open Go.RowKit
set_option linter.unusedVariables false
set_option linter.unusedSimpArgs false
/-- One source. -/
def srcT (a : ByteArray) (n : Int) : ByteArray := a ++ ⟨#[63, 119, 61]⟩ ++ decS n ++ ⟨#[32]⟩ ++ decS n ++ ⟨#[119]⟩
def wideB (n : Int) : Bool := decide (1 ≤ n) && decide (n ≤ 10000)
/-- Whether the first k are in order. -/
def ordB (l : List Int) (k : Nat) : Bool := allN k (fun i => decide (i = 0) || decide (l.getD (i - 1) 0 < l.getD i 0))
/-- The sources of the first k that are not too wide. -/
def srcs (a : ByteArray) (w : Int) (l : List Int) (k : Nat) : List ByteArray := ((l.take k).filter (fun n => decide (n ≤ w))).map (srcT a)
theorem srcs_yes {a : ByteArray} {w : Int} {l : List Int} {k : Nat} (h : k < l.length) (h2 : l.getD k 0 ≤ w) : srcs a w l (k + 1) = srcs a w l k ++ [srcT a (l.getD k 0)] := by
  unfold srcs
  rw [take_snoc l 0 k h, List.filter_append, List.map_append]
  generalize l.getD k 0 = n at h2 ⊢
  simp [h2]
theorem srcs_no {a : ByteArray} {w : Int} {l : List Int} {k : Nat} (h : k < l.length) (h2 : ¬ l.getD k 0 ≤ w) : srcs a w l (k + 1) = srcs a w l k := by
  unfold srcs
  rw [take_snoc l 0 k h, List.filter_append, List.map_append]
  generalize l.getD k 0 = n at h2 ⊢
  simp [h2]
theorem srcs_len (a : ByteArray) (w : Int) (l : List Int) (k : Nat) : (srcs a w l k).length ≤ k := by
  unfold srcs
  rw [List.length_map]
  exact Nat.le_trans (List.length_filter_le _ _) (by rw [List.length_take]; omega)
/-- The last of the first k that is not too wide. -/
def lastW (w : Int) (l : List Int) : Nat → Int
  | 0 => 0
  | k + 1 => if l.getD k 0 ≤ w then l.getD k 0 else lastW w l k
theorem lastW_in {w : Int} {l : List Int} (hw : 1 ≤ w) : ∀ k, ordB l k = true → (∀ i, i < k → l.getD i 0 ≤ lastW w l k ∨ ¬ l.getD i 0 ≤ w) ∧ (lastW w l k = 0 ∨ ∃ i, i < k ∧ l.getD i 0 = lastW w l k)
  | 0, _ => ⟨fun i hi => by omega, .inl rfl⟩
  | k + 1, h => by
    have ho := allN_iff.1 h
    obtain ⟨h1, h2⟩ := lastW_in (l := l) hw k (allN_iff.2 fun i hi => ho i (by omega))
    rw [lastW]
    split
    · rename_i hk
      have mono : ∀ d i, i + d = k → l.getD i 0 ≤ l.getD k 0 := by
        intro d
        induction d with
        | zero => intro i hi; rw [show i = k by omega]; exact Int.le_refl _
        | succ d ih =>
          intro i hi
          have h3 := ih (i + 1) (by omega)
          have h4 := ho (i + 1) (by omega)
          simp at h4
          simp only [List.getD] at *
          omega
      exact ⟨fun i hi => .inl (mono (k - i) i (by omega)), .inr ⟨k, by omega, rfl⟩⟩
    · rename_i hk
      refine ⟨fun i hi => ?_, h2.imp id fun ⟨i, hi, e⟩ => ⟨i, by omega, e⟩⟩
      rcases Nat.lt_or_ge i k with h3 | h3
      · exact h1 i h3
      · obtain rfl : i = k := by omega
        exact .inr hk
/-- The width itself is one of them just when it is the last. -/
theorem lastW_has {w : Int} {l : List Int} (hw : 1 ≤ w) (h : ordB l l.length = true) : lastW w l l.length = w ↔ w ∈ l := by
  obtain ⟨h1, h2⟩ := lastW_in hw l.length h
  have hle : ∀ k, lastW w l k ≤ w := by
    intro k
    induction k with
    | zero => show (0 : Int) ≤ w; omega
    | succ k ih => rw [lastW]; split <;> omega
  constructor
  · intro e
    rcases h2 with h2 | ⟨i, hi, h2⟩
    · omega
    · rw [e] at h2
      rw [← h2]
      exact getD_mem l 0 i hi
  · intro hm
    obtain ⟨i, hi, e⟩ := List.getElem_of_mem hm
    have e2 : l.getD i 0 = w := by simp [List.getD, hi, e]
    have := hle l.length
    rcases h1 i hi with h3 | h3
    · rw [e2] at h3; omega
    · rw [e2] at h3; omega
/-- All sources. -/
def srcAll (a : ByteArray) (w : Int) (l : List Int) : List ByteArray := if w ∈ l then srcs a w l l.length else srcs a w l l.length ++ [srcT a w]
end Go.Proofs.YtagggnjcpjodjaaDoor
