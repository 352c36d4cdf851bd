/-
  A value without the item to which a route leads: what Remove answers; the program's Remove.
-/
import Derived.Test.YtjbgafbijamckaaGreatDoorCr0
import Derived.Test.YtjbgafbijamckaaGreatDoorK0
namespace Go.Proofs.YtjbgafbijamckaaGreatDoor
open Go.RowKit
set_option linter.unusedVariables false
set_option linter.unusedSimpArgs false
namespace cr
theorem wtL_erase : ∀ (l : List Vu) (m : Nat), Vu.wtL (l.eraseIdx m) ≤ Vu.wtL l
  | [], m => by simp [Vu.wtL]
  | x :: r, 0 => by simp only [List.eraseIdx_cons_zero, Vu.wtL]; omega
  | x :: r, m + 1 => by
    have := wtL_erase r m
    simp only [List.eraseIdx_cons_succ, Vu.wtL]
    omega
theorem wtL_set : ∀ (l : List Vu) (m : Nat) (y : Vu), y.wt ≤ (l.getD m .zero).wt → Vu.wtL (l.set m y) ≤ Vu.wtL l
  | [], m, y, _ => by simp [Vu.wtL]
  | x :: r, 0, y, h => by
    have h : y.wt ≤ x.wt := h
    simp only [List.set_cons_zero, Vu.wtL]
    omega
  | x :: r, m + 1, y, h => by
    have := wtL_set r m y h
    simp only [List.set_cons_succ, Vu.wtL]
    omega
theorem sum_erase : ∀ (l : List ByteArray) (m : Nat), ((l.eraseIdx m).map fun s => s.size + 1).sum ≤ (l.map fun s => s.size + 1).sum
  | [], m => by simp
  | x :: r, 0 => by simp only [List.eraseIdx_cons_zero, List.map_cons, List.sum_cons]; omega
  | x :: r, m + 1 => by
    have := sum_erase r m
    simp only [List.eraseIdx_cons_succ, List.map_cons, List.sum_cons]
    omega
theorem wt_eq (v : Vu) : v.wt = v.text.size + 1 + Vu.wtL v.items + (v.keys.map fun s => s.size + 1).sum := by cases v; simp only [Vu.wt, Vu.text, Vu.items, Vu.keys]
theorem remAt_wt (v : Vu) (k : Nat) : (remAt v k).wt ≤ v.wt := by
  have h1 := wtL_erase v.items k
  have h2 := sum_erase v.keys k
  have e := wt_eq v
  unfold remAt
  by_cases h6 : v.kind = 6
  · rw [if_pos h6]
    simp only [Vu.wt]
    omega
  · rw [if_neg h6]
    simp only [Vu.wt]
    omega
theorem setAt_wt (v y : Vu) (k : Nat) (h : y.wt ≤ (v.items.getD k .zero).wt) : (setAt v k y).wt ≤ v.wt := by
  cases v with
  | mk k0 b i t l ks =>
    have h1 := wtL_set l k y h
    simp only [setAt, Vu.wt, Vu.kind, Vu.b, Vu.i, Vu.text, Vu.items, Vu.keys]
    omega
theorem remS_wt : ∀ (L : List Stp) (v y : Vu), (∀ s ∈ L, s.ok) → faultE v = 0 → remS L v = some y → y.wt ≤ v.wt
  | [], v, y, _, _, h => by simp [remS] at h
  | [s], v, y, hs, hf, h => by
    unfold remS at h
    split at h
    · cases h
    · injection h with h
      subst h
      exact remAt_wt _ _
  | s :: t :: r, v, y, hs, hf, h => by
    unfold remS at h
    split at h
    · cases h
    · rename_i x hx
      split at h
      · cases h
      · rename_i z hz
        injection h with h
        subst h
        have h0 := hs s List.mem_cons_self
        obtain ⟨_, p2, _⟩ := pos_at h0 hf hx
        refine setAt_wt _ _ _ ?_
        rw [← p2]
        exact remS_wt (t :: r) x z (fun q hq => hs q (List.mem_cons_of_mem _ hq)) (follow_mem h0 hf hx).1 hz
theorem rem_some : ∀ (L : List Stp) (v : Vu), L ≠ [] → ((remS L v).isSome = (getS L v).isSome)
  | [], v, h => absurd rfl h
  | [s], v, _ => by
    unfold remS getS
    cases followS v s <;> rfl
  | s :: t :: r, v, _ => by
    have ih := fun x => rem_some (t :: r) x (by simp)
    unfold remS
    rw [getS]
    cases followS v s with
    | none => rfl
    | some x =>
      show _ = (getS (t :: r) x).isSome
      rw [← ih x]
      show (match remS (t :: r) x with | none => none | some y => some (setAt v (posS v s) y)).isSome = _
      cases remS (t :: r) x <;> rfl
/-- What Remove answers. -/
def removeR (v : Vu) (s : ByteArray) : Vu × Int :=
  if checkE v ≠ 0 then (.zero, checkE v) else if routeOk false s = false ∨ s = ⟨#[]⟩ then (.zero, 3) else match remS ((partsR s).map stepOf) v with
    | some x => (x, 0)
    | none => (.zero, 7)
theorem route_len {s : ByteArray} (h : routeOk false s = true) : (partsR s).length = 0 ↔ s = ⟨#[]⟩ := parts_none (fun h2 => by rw [routeOk_long h2] at h; cases h)
section
variable (E : Env)
set_option maxRecDepth 100000
end
end cr
end Go.Proofs.YtjbgafbijamckaaGreatDoor
