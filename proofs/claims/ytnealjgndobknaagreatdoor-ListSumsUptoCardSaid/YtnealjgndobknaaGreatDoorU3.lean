/-
  list.steps, at, had, listFault, routed; the reference's HasAt, ListFault, RouteFault.
-/
import Derived.Test.YtnealjgndobknaaGreatDoorU2
import Derived.Test.YtnealjgndobknaaGreatDoorR3
namespace Go.Proofs.YtnealjgndobknaaGreatDoor
open Go.RowKit
set_option linter.unusedVariables false
set_option linter.unusedSimpArgs false
structure Lst where
  key : ByteArray
  number : Int
instance : Inhabited Lst := ⟨⟨⟨#[]⟩, 0⟩⟩
def Lst.cell (s : Lst) (j : Nat) : DD :=
  match j with
  | 0 => dS s.key
  | 1 => i64 s.number
  | _ => .opq
def encLst (s : Lst) : DD := .agg [dS s.key, i64 s.number]
def encLs (l : List Lst) : DD := .sl 2 24 l.length (fun i j => (l.getD i default).cell j)
def lstOf (p : ByteArray) : Lst := if keyOkB p = true then ⟨p, 0⟩ else ⟨⟨#[]⟩, numN p⟩
/-- A digit's number, as the code reckons it; a number's first digits. -/
def dw (s : ByteArray) (k : Nat) : Int := IntKind.u8.wrap (((bAt s k).toNat : Int) - 48)
theorem dw_eq {s : ByteArray} {k : Nat} (h : digitB (bAt s k) = true) : dw s k = ((bAt s k).toNat : Int) - 48 := by
  have := digitB_iff.1 h
  unfold dw
  simp only [IntKind.wrap, IntKind.bits, IntKind.signed]
  simp
  omega
def nv (s : ByteArray) : Nat → Int
  | 0 => 0
  | k + 1 => 10 * nv s k + dw s k
theorem nv_bound {s : ByteArray} : ∀ (k : Nat), allN k (fun i => digitB (bAt s i)) = true → 0 ≤ nv s k ∧ nv s k < 10 ^ k
  | 0, _ => by simp [nv]
  | k + 1, h => by
    have h1 := allN_iff.1 h
    obtain ⟨h2, h3⟩ := nv_bound k (allN_iff.2 fun i hi => h1 i (by omega))
    have h4 := dw_eq (h1 k (by omega))
    have h5 := digitB_iff.1 (h1 k (by omega))
    rw [nv, Int.pow_succ]
    omega
theorem nv_small {s : ByteArray} {k : Nat} (h : allN k (fun i => digitB (bAt s i)) = true) (hk : k ≤ 4) : 0 ≤ nv s k ∧ nv s k < 10000 := by
  obtain ⟨h1, h2⟩ := nv_bound k h
  have : (10 : Int) ^ k ≤ 10 ^ 4 := by
    match k, hk with
    | 0, _ => decide
    | 1, _ => decide
    | 2, _ => decide
    | 3, _ => decide
    | 4, _ => decide
  omega
theorem nv_num {s : ByteArray} (h : digs s = true) (h1 : s.size ≤ 4) : nv s s.size = numN s := by
  unfold digs at h
  have hd := allN_iff.1 h
  cases s with | mk d =>
  cases d with | mk l =>
  match l, h1, hd with
  | [], _, _ => rfl
  | [a], _, hd =>
    have g0 : digitB a = true := hd 0 (by decide : 0 < 1)
    have e0 : dw ⟨#[a]⟩ 0 = (a.toNat : Int) - 48 := dw_eq (s := ⟨#[a]⟩) (k := 0) g0
    have f0 := digitB_iff.1 g0
    show 10 * 0 + dw ⟨#[a]⟩ 0 = _
    rw [e0]
    unfold numN
    simp only [Lib.parseUint10]
    repeat (first | rw [if_pos (by omega)] | rw [if_neg (by omega)])
    simp only
    omega
  | [a, b], _, hd =>
    have g0 : digitB a = true := hd 0 (by decide : 0 < 2)
    have g1 : digitB b = true := hd 1 (by decide : 1 < 2)
    have e0 : dw ⟨#[a, b]⟩ 0 = (a.toNat : Int) - 48 := dw_eq (s := ⟨#[a, b]⟩) (k := 0) g0
    have e1 : dw ⟨#[a, b]⟩ 1 = (b.toNat : Int) - 48 := dw_eq (s := ⟨#[a, b]⟩) (k := 1) g1
    have f0 := digitB_iff.1 g0
    have f1 := digitB_iff.1 g1
    show 10 * (10 * 0 + dw ⟨#[a, b]⟩ 0) + dw ⟨#[a, b]⟩ 1 = _
    rw [e0, e1]
    unfold numN
    simp only [Lib.parseUint10]
    repeat (first | rw [if_pos (by omega)] | rw [if_neg (by omega)])
    simp only
    omega
  | [a, b, c], _, hd =>
    have g0 : digitB a = true := hd 0 (by decide : 0 < 3)
    have g1 : digitB b = true := hd 1 (by decide : 1 < 3)
    have g2 : digitB c = true := hd 2 (by decide : 2 < 3)
    have e0 : dw ⟨#[a, b, c]⟩ 0 = (a.toNat : Int) - 48 := dw_eq (s := ⟨#[a, b, c]⟩) (k := 0) g0
    have e1 : dw ⟨#[a, b, c]⟩ 1 = (b.toNat : Int) - 48 := dw_eq (s := ⟨#[a, b, c]⟩) (k := 1) g1
    have e2 : dw ⟨#[a, b, c]⟩ 2 = (c.toNat : Int) - 48 := dw_eq (s := ⟨#[a, b, c]⟩) (k := 2) g2
    have f0 := digitB_iff.1 g0
    have f1 := digitB_iff.1 g1
    have f2 := digitB_iff.1 g2
    show 10 * (10 * (10 * 0 + dw ⟨#[a, b, c]⟩ 0) + dw ⟨#[a, b, c]⟩ 1) + dw ⟨#[a, b, c]⟩ 2 = _
    rw [e0, e1, e2]
    unfold numN
    simp only [Lib.parseUint10]
    repeat (first | rw [if_pos (by omega)] | rw [if_neg (by omega)])
    simp only
    omega
  | [a, b, c, e], _, hd =>
    have g0 : digitB a = true := hd 0 (by decide : 0 < 4)
    have g1 : digitB b = true := hd 1 (by decide : 1 < 4)
    have g2 : digitB c = true := hd 2 (by decide : 2 < 4)
    have g3 : digitB e = true := hd 3 (by decide : 3 < 4)
    have e0 : dw ⟨#[a, b, c, e]⟩ 0 = (a.toNat : Int) - 48 := dw_eq (s := ⟨#[a, b, c, e]⟩) (k := 0) g0
    have e1 : dw ⟨#[a, b, c, e]⟩ 1 = (b.toNat : Int) - 48 := dw_eq (s := ⟨#[a, b, c, e]⟩) (k := 1) g1
    have e2 : dw ⟨#[a, b, c, e]⟩ 2 = (c.toNat : Int) - 48 := dw_eq (s := ⟨#[a, b, c, e]⟩) (k := 2) g2
    have e3 : dw ⟨#[a, b, c, e]⟩ 3 = (e.toNat : Int) - 48 := dw_eq (s := ⟨#[a, b, c, e]⟩) (k := 3) g3
    have f0 := digitB_iff.1 g0
    have f1 := digitB_iff.1 g1
    have f2 := digitB_iff.1 g2
    have f3 := digitB_iff.1 g3
    show 10 * (10 * (10 * (10 * 0 + dw ⟨#[a, b, c, e]⟩ 0) + dw ⟨#[a, b, c, e]⟩ 1) + dw ⟨#[a, b, c, e]⟩ 2) + dw ⟨#[a, b, c, e]⟩ 3 = _
    rw [e0, e1, e2, e3]
    unfold numN
    simp only [Lib.parseUint10]
    repeat (first | rw [if_pos (by omega)] | rw [if_neg (by omega)])
    simp only
    omega
/-- One step of the scan. -/
theorem scan_step {s : ByteArray} {f i : Nat} (hi : i ≤ s.size) (h : i < s.size → bAt s i = 46) : scan s f i = s.extract f i :: (if i + 1 ≤ s.size then scan s (i + 1) (i + 1) else []) := by
  rcases Nat.lt_or_ge i s.size with h1 | h1
  · rw [scan_dot h1 (h h1), if_pos (by omega)]
  · rw [scan_end (by omega), if_neg (by omega), show i = s.size by omega]
section
variable (E : Env)
theorem row_lst (f : Nat → Lst) (k i j : Nat) (c : Lst) (hc : f k = c) (hi : i < k + 1) (hj : j < 2) : Dle (cx Tryz.prog mixed tyT_ok E) (if i < k then (f i).cell j else ([dS c.key, i64 c.number] : List DD).getD ((i - k + 0) * 2 + j) .opq) ((f i).cell j) :=
  row_one (X := (cx Tryz.prog mixed tyT_ok E)) (f := fun i j => (f i).cell j) (g := fun i j => (f i).cell j) (fun _ _ _ _ => Dle.refl _ _) (fun j hj => by
    show Dle _ _ ((f k).cell j)
    rw [hc]
    match j, hj with
    | 0, _ => exact Dle.refl _ _
    | 1, _ => exact Dle.refl _ _) i j hi hj
end
end Go.Proofs.YtnealjgndobknaaGreatDoor
