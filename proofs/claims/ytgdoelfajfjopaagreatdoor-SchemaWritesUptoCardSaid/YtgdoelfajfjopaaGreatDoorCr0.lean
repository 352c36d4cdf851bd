/-
  A value without the item to which a route leads: the program's remove.
-/
import Derived.Test.YtgdoelfajfjopaaGreatDoorS6
import Derived.Test.YtgdoelfajfjopaaGreatDoorN18
namespace Go.Proofs.YtgdoelfajfjopaaGreatDoor
open Go.RowKit
set_option linter.unusedVariables false
set_option linter.unusedSimpArgs false
namespace cr
/-- The place to which a step leads. -/
def posS (v : Vu) (s : Stp) : Nat := if s.key = ⟨#[]⟩ then s.number.toNat else findK v s.key
def remAt (v : Vu) (k : Nat) : Vu := .mk v.kind v.b v.i v.text (v.items.eraseIdx k) (if v.kind = 6 then v.keys.eraseIdx k else v.keys)
def setAt (v : Vu) (k : Nat) (y : Vu) : Vu := .mk v.kind v.b v.i v.text (v.items.set k y) v.keys
/-- A value without the item to which steps lead. -/
def remS : List Stp → Vu → Option Vu
  | [], _ => none
  | [s], v => match followS v s with
    | none => none
    | some _ => some (remAt v (posS v s))
  | s :: t :: r, v => match followS v s with
    | none => none
    | some x => match remS (t :: r) x with
      | none => none
      | some y => some (setAt v (posS v s) y)
theorem pos_at {v x : Vu} {s : Stp} (hs : s.ok) (hf : faultE v = 0) (h : followS v s = some x) : posS v s < v.items.length ∧ x = v.items.getD (posS v s) .zero ∧ (s.key = ⟨#[]⟩ → v.kind = 5) ∧ (¬ s.key = ⟨#[]⟩ → v.kind = 6 ∧ posS v s < v.keys.length ∧ hasK v s.key = true) := by
  unfold followS at h
  unfold posS
  unfold Stp.ok at hs
  by_cases hk : s.key = ⟨#[]⟩
  · rw [if_pos hk] at h ⊢
    split at h
    · rename_i h2
      injection h with h
      exact ⟨by omega, h.symm, fun _ => h2.1, fun h3 => absurd hk h3⟩
    · cases h
  · rw [if_neg hk] at h ⊢
    split at h
    · rename_i h2
      injection h with h
      have h3 := has_lt h2.2
      have h4 := (fault_keys hf).2 h2.1
      exact ⟨by omega, h.symm, fun h5 => absurd h5 hk, fun _ => ⟨h2.1, h3, h2.2⟩⟩
    · cases h
theorem erase_at {α : Type} (l : List α) (d : α) (m i : Nat) : (l.eraseIdx m).getD i d = if i < m then l.getD i d else l.getD (i + 1) d := by
  simp only [List.getD, List.getElem?_eraseIdx]
  split <;> rfl
theorem set_at {α : Type} (l : List α) (d y : α) (m i : Nat) (hm : m < l.length) : (l.set m y).getD i d = if i = m then y else l.getD i d := by
  simp only [List.getD, List.getElem?_set]
  by_cases h : m = i
  · subst h
    rw [if_pos rfl, if_pos hm, if_pos rfl]
    rfl
  · rw [if_neg h, if_neg (fun e => h e.symm)]
theorem erase_len {α : Type} (l : List α) (m : Nat) (hm : m < l.length) : (l.eraseIdx m).length = l.length - 1 := by
  rw [List.length_eraseIdx, if_pos hm]
section
variable (E : Env)
set_option maxRecDepth 100000
theorem row_erase (l : List Vu) (m n : Nat) (g : Nat → Nat → DD) (hm : m < l.length) (hn : n = l.length - 1) (hg : ∀ i j, i < n → j < 6 → g i j = if i < m then (l.getD i .zero).cell j else (l.getD (i + 1) .zero).cell j) : Dle (cx Tryz.prog mixed tyT_ok E) (.sl 6 88 n g) (.rc (.vals (l.eraseIdx m))) :=
  Dle.rc (X := (cx Tryz.prog mixed tyT_ok E)) (Dle.sl (X := (cx Tryz.prog mixed tyT_ok E)) (by rw [hn]; exact (erase_len l m hm).symm) (fun i j hi hj => Dle.of_eq (by
    rw [hg i j hi hj]
    show _ = ((l.eraseIdx m).getD i .zero).cell j
    rw [erase_at]
    split <;> rfl)))
theorem keys_erase (l : List ByteArray) (m n : Nat) (g : Nat → Nat → DD) (hm : m < l.length) (hn : n = l.length - 1) (hg : ∀ i j, i < n → j < 1 → g i j = if i < m then dS (l.getD i ⟨#[]⟩) else dS (l.getD (i + 1) ⟨#[]⟩)) : Dle (cx Tryz.prog mixed tyT_ok E) (.sl 1 16 n g) (encStrs (l.eraseIdx m)) :=
  Dle.sl (X := (cx Tryz.prog mixed tyT_ok E)) (by rw [hn]; exact (erase_len l m hm).symm) (fun i j hi hj => Dle.of_eq (by
    rw [hg i j hi hj, erase_at]
    split <;> rfl))
theorem row_set (l : List Vu) (y : Vu) (m n : Nat) (g : Nat → Nat → DD) (hm : m < l.length) (hn : n = l.length) (hg : ∀ i j, i < n → j < 6 → g i j = if i = m then y.cell j else (l.getD i .zero).cell j) : Dle (cx Tryz.prog mixed tyT_ok E) (.sl 6 88 n g) (.rc (.vals (l.set m y))) :=
  Dle.rc (X := (cx Tryz.prog mixed tyT_ok E)) (Dle.sl (X := (cx Tryz.prog mixed tyT_ok E)) (by rw [hn]; exact (List.length_set ..).symm) (fun i j hi hj => Dle.of_eq (by
    rw [hg i j hi hj]
    show _ = ((l.set m y).getD i .zero).cell j
    rw [set_at _ _ _ _ _ hm]
    split <;> rfl)))
theorem set_cell (y : Vu) (f : Nat → Nat → DD) (k i j : Nat) (hj : j < 6) : rowSet f k 0 [i64 y.kind, dB y.b, i64 y.i, dS y.text, .rc (.vals y.items), encStrs y.keys] i j = if i = k then y.cell j else f i j := by
  unfold rowSet
  by_cases h : i = k
  · rw [if_pos ⟨h, Nat.zero_le _, by show j < 0 + 6; omega⟩, if_pos h]
    match j, hj with
    | 0, _ => rfl
    | 1, _ => rfl
    | 2, _ => rfl
    | 3, _ => rfl
    | 4, _ => rfl
    | 5, _ => rfl
  · rw [if_neg (fun h2 => h h2.1), if_neg h]
end
end cr
end Go.Proofs.YtgdoelfajfjopaaGreatDoor
