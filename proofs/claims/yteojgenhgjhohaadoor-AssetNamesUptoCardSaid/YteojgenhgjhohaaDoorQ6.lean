/-
  conf.valueFault and its reference parts: what is wrong with a value; counts. conf.count, levels, valuesFault, Check.
-/
import Derived.Test.YteojgenhgjhohaaDoorQ3
namespace Go.Proofs.YteojgenhgjhohaaDoor
open Go.RowKit
set_option linter.unusedVariables false
set_option linter.unusedSimpArgs false

def keysFrom (l : List ByteArray) (k : Nat) : Int :=
  if k < l.length then
    (if keyOkB (l.getD k ⟨#[]⟩) = true then
      (if 0 < k ∧ (strLt (l.getD k ⟨#[]⟩) (l.getD (k - 1) ⟨#[]⟩) || decide (l.getD k ⟨#[]⟩ = l.getD (k - 1) ⟨#[]⟩)) = true then 5 else keysFrom l (k + 1)) else 12) else 0
  termination_by l.length - k
def headE (v : Vu) : Int :=
  if v.kind < 0 ∨ 6 < v.kind then 10 else if unusedP v then 1 else if v.kind = 4 ∧ badDayP v.i then 2 else if 5000 < v.text.size then 4 else if badStr v.text = true then 9 else keysFrom v.keys 0
section
variable (E : Env)
set_option maxRecDepth 100000
end
end Go.Proofs.YteojgenhgjhohaaDoor
namespace Go.Proofs.YteojgenhgjhohaaDoor
open Go.RowKit
set_option linter.unusedVariables false
set_option linter.unusedSimpArgs false

mutual
def lvl : Vu → Nat
  | .mk _ _ _ _ l _ => lvlL l + 1
def lvlL : List Vu → Nat
  | [] => 0
  | x :: r => max (lvl x) (lvlL r)
end
mutual
def cnt : Vu → Nat
  | .mk _ _ _ _ l _ => cntL l + 1
def cntL : List Vu → Nat
  | [] => 0
  | x :: r => cnt x + cntL r
end
mutual
theorem lvl_le_cnt : ∀ v : Vu, lvl v ≤ cnt v
  | .mk _ _ _ _ l _ => by have := lvlL_le_cnt l; simp only [lvl, cnt]; omega
theorem lvlL_le_cnt : ∀ l : List Vu, lvlL l ≤ cntL l
  | [] => by simp [lvlL]
  | x :: r => by have := lvl_le_cnt x; have := lvlL_le_cnt r; simp only [lvlL, cntL]; omega
end
mutual
def cb : Vu → Nat
  | .mk _ _ _ _ l _ => cbL l 1
def cbL : List Vu → Nat → Nat
  | [], n => n
  | x :: r, n => if 1000 < n then n else cbL r (n + cb x)
end
mutual
theorem cb_cnt : ∀ v : Vu, cb v ≤ cnt v ∧ (cb v ≤ 1000 → cb v = cnt v)
  | .mk _ _ _ _ l _ => by have := cbL_cnt l 1; simp only [cb, cnt]; omega
theorem cbL_cnt : ∀ (l : List Vu) (n : Nat), cbL l n ≤ n + cntL l ∧ (cbL l n ≤ 1000 → cbL l n = n + cntL l) ∧ n ≤ cbL l n
  | [], n => by simp [cbL, cntL]
  | x :: r, n => by
    have h1 := cb_cnt x
    have h2 := cbL_cnt r (n + cb x)
    simp only [cbL, cntL]
    split <;> omega
end
mutual
def faultE : Vu → Int
  | .mk k b i t l ks => if headE (.mk k b i t l ks) = 0 then faultL l else headE (.mk k b i t l ks)
def faultL : List Vu → Int
  | [] => 0
  | x :: r => if faultE x = 0 then faultL r else faultE x
end
section
variable (E : Env)
set_option maxRecDepth 100000

end
end Go.Proofs.YteojgenhgjhohaaDoor
