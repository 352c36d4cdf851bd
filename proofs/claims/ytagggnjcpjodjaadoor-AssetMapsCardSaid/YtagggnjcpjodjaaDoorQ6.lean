/-
  conf.count, levels, valuesFault, Check.
-/
import Derived.Test.YtagggnjcpjodjaaDoorQ5
namespace Go.Proofs.YtagggnjcpjodjaaDoor
open Go.RowKit
set_option linter.unusedVariables false
set_option linter.unusedSimpArgs false

theorem drop_cons {α : Type} (l : List α) (d : α) (k : Nat) (h : k < l.length) : l.drop k = l.getD k d :: l.drop (k + 1) := by
  rw [List.drop_eq_getElem_cons h]
  simp [List.getD, h]
theorem items_lt (v : Vu) (x : Vu) (h : x ∈ v.items) : SizeOf.sizeOf x < SizeOf.sizeOf v := by
  cases v with
  | mk k b i t l ks =>
    have := List.sizeOf_lt_of_mem h
    simp only [Vu.items] at this
    simp
    omega
mutual
def lvl : Vu → Nat
  | .mk _ _ _ _ l _ => lvlL l + 1
def lvlL : List Vu → Nat
  | [] => 0
  | x :: r => max (lvl x) (lvlL r)
end
theorem lvl_eq (v : Vu) : lvl v = lvlL v.items + 1 := by cases v; simp [lvl, Vu.items]
theorem lvlL_app (l : List Vu) (x : Vu) : lvlL (l ++ [x]) = max (lvlL l) (lvl x) := by
  induction l with
  | nil => simp [lvlL]
  | cons a l ih => simp only [List.cons_append, lvlL, ih]; omega
theorem lvl_mem (l : List Vu) (x : Vu) (h : x ∈ l) : lvl x ≤ lvlL l := by
  induction l with
  | nil => cases h
  | cons a l ih =>
    rcases List.mem_cons.1 h with rfl | h
    · simp [lvlL]; omega
    · have := ih h; simp [lvlL]; omega
mutual
def cnt : Vu → Nat
  | .mk _ _ _ _ l _ => cntL l + 1
def cntL : List Vu → Nat
  | [] => 0
  | x :: r => cnt x + cntL r
end
theorem cnt_eq (v : Vu) : cnt v = cntL v.items + 1 := by cases v; simp [cnt, Vu.items]
theorem cntL_app (l : List Vu) (x : Vu) : cntL (l ++ [x]) = cntL l + cnt x := by
  induction l with
  | nil => simp [cntL]
  | cons a l ih => simp only [List.cons_append, cntL, ih]; omega
theorem cnt_mem (l : List Vu) (x : Vu) (h : x ∈ l) : cnt x ≤ cntL l := by
  induction l with
  | nil => cases h
  | cons a l ih =>
    rcases List.mem_cons.1 h with rfl | h
    · simp [cntL]
    · have := ih h; simp [cntL]; omega
theorem cntL_take (l : List Vu) (k : Nat) : cntL (l.take k) ≤ cntL l := by
  induction l generalizing k with
  | nil => simp [cntL]
  | cons a l ih => cases k with
    | zero => simp [cntL]
    | succ k => have := ih k; simp only [List.take_succ_cons, cntL]; omega
mutual
theorem lvl_le_cnt : ∀ v : Vu, lvl v ≤ cnt v
  | .mk _ _ _ _ l _ => by have := lvlL_le_cnt l; simp only [lvl, cnt]; omega
theorem lvlL_le_cnt : ∀ l : List Vu, lvlL l ≤ cntL l
  | [] => by simp [lvlL]
  | x :: r => by have := lvl_le_cnt x; have := lvlL_le_cnt r; simp only [lvlL, cntL]; omega
end
mutual
/-- What conf.count answers. -/
def cb : Vu → Nat
  | .mk _ _ _ _ l _ => cbL l 1
def cbL : List Vu → Nat → Nat
  | [], n => n
  | x :: r, n => if 1000 < n then n else cbL r (n + cb x)
end
theorem cb_eq (v : Vu) : cb v = cbL v.items 1 := by cases v; simp [cb, Vu.items]
mutual
theorem cb_cnt : ∀ v : Vu, cb v ≤ cnt v ∧ (cb v ≤ 1000 → cb v = cnt v)
  | .mk _ _ _ _ l _ => by have := cbL_cnt l 1; simp only [cb, cnt]; omega
theorem cbL_cnt : ∀ (l : List Vu) (n : Nat), cbL l n ≤ n + cntL l ∧ (cbL l n ≤ 1000 → cbL l n = n + cntL l) ∧ n ≤ cbL l n
  | [], n => by simp [cbL, cntL]
  | x :: r, n => by
    have h1 := cb_cnt x
    have h2 := cbL_cnt r (n + cb x)
    simp only [cbL, cntL]
    split <;> omega
end
mutual
/-- What is wrong with a value. -/
def faultE : Vu → Int
  | .mk k b i t l ks => if headE (.mk k b i t l ks) = 0 then faultL l else headE (.mk k b i t l ks)
def faultL : List Vu → Int
  | [] => 0
  | x :: r => if faultE x = 0 then faultL r else faultE x
end
theorem faultE_eq (v : Vu) : faultE v = if headE v = 0 then faultL v.items else headE v := by cases v; simp only [faultE, Vu.items]
theorem faultL_drop {l : List Vu} {k : Nat} (h : k < l.length) : faultL (l.drop k) = if faultE (l.getD k .zero) = 0 then faultL (l.drop (k + 1)) else faultE (l.getD k .zero) := by
  rw [drop_cons l .zero k h]; simp only [faultL]
theorem faultL_end {l : List Vu} {k : Nat} (h : l.length ≤ k) : faultL (l.drop k) = 0 := by rw [List.drop_of_length_le h]; rfl
theorem cbL_drop {l : List Vu} {k n : Nat} (h : k < l.length) : cbL (l.drop k) n = if 1000 < n then n else cbL (l.drop (k + 1)) (n + cb (l.getD k .zero)) := by
  rw [drop_cons l .zero k h]; simp only [cbL]
theorem cbL_end {l : List Vu} {k n : Nat} (h : l.length ≤ k) : cbL (l.drop k) n = n := by rw [List.drop_of_length_le h]; rfl
/-- What Check says. -/
def checkE (v : Vu) : Int := if 1000 < cnt v then 4 else if 8 < lvl v then 13 else faultE v
section
variable (E : Env)
set_option maxRecDepth 100000

end
end Go.Proofs.YtagggnjcpjodjaaDoor
