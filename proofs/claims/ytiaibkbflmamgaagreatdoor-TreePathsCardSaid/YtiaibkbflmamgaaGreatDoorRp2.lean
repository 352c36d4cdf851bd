/-
  A byteStringReplacer's Replace: each byte that has a new text is put in its place.
-/
import Derived.Test.YtiaibkbflmamgaaGreatDoorRp1
import Derived.Test.YtiaibkbflmamgaaGreatDoorShelf
namespace Go.Proofs.YtiaibkbflmamgaaGreatDoor.rp
open Go.RowKit
set_option linter.unusedVariables false
set_option linter.unusedSimpArgs false
def sumT (F : Nat → Int) : Nat → Int
  | 0 => 0
  | m + 1 => sumT F m + F m
theorem sumT_zero {F : Nat → Int} : ∀ m, (∀ t, t < m → F t = 0) → sumT F m = 0
  | 0, _ => rfl
  | m + 1, h => by rw [sumT, sumT_zero m (fun t ht => h t (by omega)), h m (by omega)]; rfl
theorem sumT_one {F : Nat → Int} (t0 : Nat) : ∀ m, t0 < m → (∀ t, t < m → t ≠ t0 → F t = 0) → sumT F m = F t0
  | 0, h, _ => by omega
  | m + 1, h, hz => by
    rw [sumT]
    by_cases e : t0 = m
    · subst e
      rw [sumT_zero _ (fun t ht => hz t (by omega) (by omega))]
      omega
    · rw [sumT_one t0 m (by omega) (fun t ht hne => hz t (by omega) hne), hz m (by omega) (by omega)]
      omega
theorem sumT_add (F G : Nat → Int) : ∀ m, sumT (fun t => F t + G t) m = sumT F m + sumT G m
  | 0 => rfl
  | m + 1 => by rw [sumT, sumT, sumT, sumT_add F G m]; omega
theorem sumT_congr {F G : Nat → Int} : ∀ m, (∀ t, t < m → F t = G t) → sumT F m = sumT G m
  | 0, _ => rfl
  | m + 1, h => by rw [sumT, sumT, sumT_congr m (fun t ht => h t (by omega)), h m (by omega)]
theorem sumT_bd {F : Nat → Int} {N : Int} : ∀ m, (∀ t, t < m → 0 ≤ F t ∧ F t ≤ N) → 0 ≤ sumT F m ∧ sumT F m ≤ m * N
  | 0, _ => by simp [sumT]
  | m + 1, h => by
    have h1 := sumT_bd m (fun t ht => h t (by omega))
    have h2 := h m (by omega)
    rw [sumT, Int.natCast_succ, Int.add_mul]
    omega
section
variable (P : Nat → ByteArray) (n : Nat)
/-- Key number t of what is to be replaced; how long its new text is. -/
def kT (t : Nat) : UInt8 := bAt (P (2 * (n - 1 - t))) 0
def nT (t : Nat) : Nat := (P (2 * (n - 1 - t) + 1)).size
/-- What stands in a byte's place. -/
def rB (x : UInt8) : List UInt8 := match (List.range n).find? (fun i => bAt (P (2 * i)) 0 == x) with
  | some i => (P (2 * i + 1)).data.toList
  | none => [x]
def outB (l : List UInt8) : List UInt8 := l.flatMap (rB P n)
theorem rB_key {P : Nat → ByteArray} {n : Nat} (hp : Prs P n) {i : Nat} (hi : i < n) : rB P n (bAt (P (2 * i)) 0) = (P (2 * i + 1)).data.toList := by
  unfold rB
  cases h : (List.range n).find? (fun j => bAt (P (2 * j)) 0 == bAt (P (2 * i)) 0) with
  | none =>
    have := List.find?_eq_none.1 h i (List.mem_range.2 hi)
    simp at this
  | some j =>
    have h1 := List.find?_some h
    have h2 := List.mem_range.1 (List.mem_of_find?_eq_some h)
    obtain rfl := hp.two j i h2 hi (by simpa using h1)
    rfl
theorem rB_no {P : Nat → ByteArray} {n : Nat} {x : UInt8} (h : ∀ i, i < n → bAt (P (2 * i)) 0 ≠ x) : rB P n x = [x] := by
  unfold rB
  rw [List.find?_eq_none.2 (fun i hi => by simpa using h i (List.mem_range.1 hi))]
theorem rB_cases (P : Nat → ByteArray) (n : Nat) (x : UInt8) : (∃ i, i < n ∧ bAt (P (2 * i)) 0 = x) ∨ ∀ i, i < n → bAt (P (2 * i)) 0 ≠ x := by
  by_cases h : ∃ i, i < n ∧ bAt (P (2 * i)) 0 = x
  · exact .inl h
  · exact .inr fun i hi e => h ⟨i, hi, e⟩
/-- A byte's share of the growth. -/
theorem rB_len {P : Nat → ByteArray} {n : Nat} (hp : Prs P n) (x : UInt8) : ((rB P n x).length : Int) = 1 + sumT (fun t => (if x = kT P n t then 1 else 0) * ((nT P n t : Int) - 1)) n := by
  rcases rB_cases P n x with ⟨i, hi, rfl⟩ | h
  · rw [rB_key hp hi, sumT_one (n - 1 - i) n (by omega) (fun t ht hne => ?_)]
    · have e : n - 1 - (n - 1 - i) = i := by omega
      unfold kT nT
      rw [e, if_pos rfl, Array.length_toList]
      show ((P (2 * i + 1)).size : Int) = _
      omega
    · unfold kT
      rw [if_neg (fun e => hne (by have := hp.two _ _ hi (show n - 1 - t < n by omega) e; omega)), Int.zero_mul]
  · rw [rB_no h, sumT_zero n (fun t ht => ?_)]
    · rfl
    · unfold kT
      rw [if_neg (fun e => h (n - 1 - t) (by omega) e.symm), Int.zero_mul]
theorem out_len {P : Nat → ByteArray} {n : Nat} (hp : Prs P n) : ∀ l : List UInt8, ((outB P n l).length : Int) = l.length + sumT (fun t => (l.count (kT P n t) : Int) * ((nT P n t : Int) - 1)) n
  | [] => by
    rw [sumT_zero n (fun t ht => by simp)]
    rfl
  | x :: l => by
    have ih := out_len hp l
    have h1 := rB_len hp x
    have e : sumT (fun t => (((x :: l).count (kT P n t) : Nat) : Int) * ((nT P n t : Int) - 1)) n = sumT (fun t => (l.count (kT P n t) : Int) * ((nT P n t : Int) - 1)) n + sumT (fun t => (if x = kT P n t then 1 else 0) * ((nT P n t : Int) - 1)) n := by
      rw [← sumT_add]
      refine sumT_congr n fun t ht => ?_
      rw [← Int.add_mul, List.count_cons]
      congr 1
      by_cases h : x = kT P n t
      · rw [if_pos h, if_pos (by simpa using h)]; omega
      · rw [if_neg h, if_neg (by simpa using h)]; omega
    rw [e, List.length_cons, show outB P n (x :: l) = rB P n x ++ outB P n l from rfl, List.length_append]
    omega
theorem out_same {P : Nat → ByteArray} {n : Nat} : ∀ l : List UInt8, (∀ t, t < n → l.count (kT P n t) = 0) → outB P n l = l
  | [], _ => rfl
  | x :: l, h => by
    rw [show outB P n (x :: l) = rB P n x ++ outB P n l from rfl, out_same l (fun t ht => by have := h t ht; rw [List.count_cons] at this; omega), rB_no (fun i hi e => ?_)]
    · rfl
    · have := h (n - 1 - i) (by omega)
      unfold kT at this
      rw [show n - 1 - (n - 1 - i) = i by omega, e, List.count_cons_self] at this
      omega
theorem out_snoc (l : List UInt8) {k : Nat} (hk : k < l.length) : outB P n (l.take (k + 1)) = outB P n (l.take k) ++ rB P n l[k] := by
  unfold outB
  rw [List.take_add_one, List.flatMap_append]
  simp [hk]
end
end Go.Proofs.YtiaibkbflmamgaaGreatDoor.rp
