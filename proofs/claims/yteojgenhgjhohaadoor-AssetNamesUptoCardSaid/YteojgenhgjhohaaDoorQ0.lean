/-
  This program's recursive data; the context of its calls.
-/
import Derived.Test.YteojgenhgjhohaaDoorTy
namespace Go.Proofs.YteojgenhgjhohaaDoor
open Go.RowKit

inductive Vu : Type where
  | mk (kind : Int) (b : Bool) (i : Int) (text : ByteArray) (items : List Vu) (keys : List ByteArray)
def Vu.kind : Vu → Int | .mk k _ _ _ _ _ => k
def Vu.b : Vu → Bool | .mk _ b _ _ _ _ => b
def Vu.i : Vu → Int | .mk _ _ i _ _ _ => i
def Vu.text : Vu → ByteArray | .mk _ _ _ t _ _ => t
def Vu.items : Vu → List Vu | .mk _ _ _ _ l _ => l
def Vu.keys : Vu → List ByteArray | .mk _ _ _ _ _ k => k
theorem Vu.eta (v : Vu) : v = .mk v.kind v.b v.i v.text v.items v.keys := by cases v; rfl
def Vu.zero : Vu := .mk 0 false 0 ⟨#[]⟩ [] []
instance : Inhabited Vu := ⟨.zero⟩

inductive Cd : Type where
  | mk (op : Int) (route : ByteArray) (value : Vu) (kids : List Cd)
def Cd.op : Cd → Int | .mk o _ _ _ => o
def Cd.route : Cd → ByteArray | .mk _ r _ _ => r
def Cd.value : Cd → Vu | .mk _ _ v _ => v
def Cd.kids : Cd → List Cd | .mk _ _ _ k => k
theorem Cd.eta (c : Cd) : c = .mk c.op c.route c.value c.kids := by cases c; rfl
def Cd.zero : Cd := .mk 0 ⟨#[]⟩ .zero []
instance : Inhabited Cd := ⟨.zero⟩

inductive Ts : Type where
  | mk (op md lo hi : Int) (kids : List Ts)
def Ts.op : Ts → Int | .mk o _ _ _ _ => o
def Ts.md : Ts → Int | .mk _ m _ _ _ => m
def Ts.lo : Ts → Int | .mk _ _ l _ _ => l
def Ts.hi : Ts → Int | .mk _ _ _ h _ => h
def Ts.kids : Ts → List Ts | .mk _ _ _ _ k => k
theorem Ts.eta (t : Ts) : t = .mk t.op t.md t.lo t.hi t.kids := by cases t; rfl
def Ts.zero : Ts := .mk 0 0 0 0 []
instance : Inhabited Ts := ⟨.zero⟩

inductive RC : Type where
  | vals (l : List Vu)
  | conds (l : List Cd)
  | tests (l : List Ts)

abbrev DD := D RC
def encStrs (l : List ByteArray) : DD := .sl 1 16 l.length (fun i _ => .v (.string (l.getD i ⟨#[]⟩)))
def Vu.cell (v : Vu) (j : Nat) : DD :=
  match j with
  | 0 => .v (.int .i64 v.kind)
  | 1 => .v (.bool v.b)
  | 2 => .v (.int .i64 v.i)
  | 3 => .v (.string v.text)
  | 4 => .rc (.vals v.items)
  | 5 => encStrs v.keys
  | _ => .opq
def Cd.cell (c : Cd) (j : Nat) : DD :=
  match j with
  | 0 => .v (.int .i64 c.op)
  | 1 => .v (.string c.route)
  | 2 => .v (.int .i64 c.value.kind)
  | 3 => .v (.bool c.value.b)
  | 4 => .v (.int .i64 c.value.i)
  | 5 => .v (.string c.value.text)
  | 6 => .rc (.vals c.value.items)
  | 7 => encStrs c.value.keys
  | 8 => .rc (.conds c.kids)
  | _ => .opq
def Ts.cell (t : Ts) (j : Nat) : DD :=
  match j with
  | 0 => .v (.int .i64 t.op)
  | 1 => .v (.int .i64 t.md)
  | 2 => .v (.int .i64 t.lo)
  | 3 => .v (.int .i64 t.hi)
  | 4 => .rc (.tests t.kids)
  | _ => .opq
def view : VW RC
  | .vals l => (6, 88, l.length, fun i j => (l.getD i .zero).cell j)
  | .conds l => (9, 136, l.length, fun i j => (l.getD i .zero).cell j)
  | .tests l => (5, 56, l.length, fun i j => (l.getD i .zero).cell j)

structure Env where
  nG : Nat
  G : World → Prop
  gsz : ∀ w, G w → nG ≤ w.heap.size
  keep : ∀ w w', G w → Kp nG noS w w' → G w'
  MG : Nat → Nat → Prop
  mg : ∀ b o, MG b o → b < nG
  gv : Nat → DD
  gok : ∀ w, G w → ∀ g, Rep view MG w b0 (gv g) (.pointer (some ⟨g, 0, none⟩))
def cx (P : Program) (hm : P.follows .mixedOrders = true) (ht : TyS P) (E : Env) : Cx RC :=
  { P := P, V := view, nG := E.nG, G := E.G, gsz := E.gsz, keep := E.keep, mixed := hm, MG := E.MG, mg := E.mg, gv := E.gv, gok := E.gok, T := tyT, tok := ht.ty, se := seB, sok := ht.se }
theorem mixed : Tryd.prog.follows .mixedOrders = true := by kernel_rfl
abbrev i64 (n : Int) : DD := .v (.int .i64 n)
abbrev dB (b : Bool) : DD := .v (.bool b)
abbrev dS (s : ByteArray) : DD := .v (.string s)
end Go.Proofs.YteojgenhgjhohaaDoor
