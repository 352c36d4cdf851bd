/-
  strings.Trim leaves nothing of a string just when all its bytes are of the set.
-/
import Derived.Shelf.Strings.SlTrimAscii
namespace Go.Proofs.YtagggnjcpjodjaaDoor
open Go.RowKit
theorem dropWhile_head {α : Type} {p : α → Bool} : ∀ {l : List α} {a : α} {r : List α}, l.dropWhile p = a :: r → p a = false
  | [], _, _, h => by simp at h
  | x :: l, a, r, h => by
    rw [List.dropWhile_cons] at h
    split at h
    · exact dropWhile_head h
    · rename_i hx
      injection h with h _
      subst h
      simpa using hx
theorem dropWhile_nil {α : Type} {p : α → Bool} : ∀ {l : List α}, l.dropWhile p = [] ↔ l.all p = true
  | [] => by simp
  | x :: l => by
    rw [List.dropWhile_cons, List.all_cons]
    split
    · rename_i hx
      rw [hx, dropWhile_nil]
      simp
    · rename_i hx
      simp [hx]
/-- A string is made of bytes of a set just when nothing is left of it behind strings.Trim. -/
theorem trim_nil (l cs : List UInt8) : (Lib.trimS l cs).isEmpty = l.all (cs.contains ·) := by
  rw [Bool.eq_iff_iff, List.isEmpty_iff]
  unfold Lib.trimS Lib.trimLeftS Lib.trimRightS
  rw [dropWhile_nil, List.all_reverse]
  constructor
  · intro h
    cases hd : l.reverse.dropWhile (cs.contains ·) with
    | nil =>
      rw [dropWhile_nil, List.all_reverse] at hd
      exact hd
    | cons a r =>
      have h1 := dropWhile_head hd
      rw [hd, List.all_cons, Bool.and_eq_true] at h
      rw [h1] at h
      cases h.1
  · intro h
    have : l.reverse.dropWhile (cs.contains ·) = [] := by rw [dropWhile_nil, List.all_reverse]; exact h
    rw [this]
    rfl

end Go.Proofs.YtagggnjcpjodjaaDoor
