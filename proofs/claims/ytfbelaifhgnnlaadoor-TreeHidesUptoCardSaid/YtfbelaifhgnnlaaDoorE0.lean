/-
  Values of Go read as plain data ('D'), over any program: what it is for a value of a world to read as a datum; contracts of functions in these terms. A reading stays as long as the cells that it looks at stay.
-/
import Derived.Test.YtfbelaifhgnnlaaDoorL0
import Derived.ProofKit
namespace Go.Proofs.YtfbelaifhgnnlaaDoor
open Go.RowKit

/-- A datum: a plain value; a struct's or an array's cells; several results; a slice (cells and bytes of an element, its length, its cells); a slice of a type that holds itself, by a code; a pointer to cells that nobody writes; a function; nothing (an operation that was passed over); anything. -/
inductive D (κ : Type) : Type where
  | v (x : Value)
  | agg (cs : List (D κ))
  | tup (cs : List (D κ))
  | sl (sz by_ n : Nat) (f : Nat → Nat → D κ)
  | rc (k : κ)
  | ref (n : Nat) (f : Nat → D κ)
  | fn (f : FuncId) (cs : List (D κ))
  | und
  | opq

/-- What a code stands for: cells and bytes of an element, the length, the cells. -/
abbrev VW (κ : Type) : Type := κ → Nat × Nat × Nat × (Nat → Nat → D κ)

/-- A plain value: a number, a string, a bool, nil. -/
def okB : Value → Bool
  | .int _ _ => true
  | .string s => decide (s.size ≤ maxLen)
  | .bool _ => true
  | .slice none 0 0 => true
  | .pointer none => true
  | .map none => true
  | .nilIface => true
  | .nilFunc => true
  | _ => false
theorem okB_one {x : Value} (h : okB x = true) : x.oneCell' = true := by
  cases x <;> simp_all [okB, Value.oneCell']

/-- The value reads as the datum; M: the cells that may be looked at. -/
inductive Rep {κ : Type} (V : VW κ) (M : Nat → Nat → Prop) (w : World) : D κ → Value → Prop
  | v {x : Value} (h : okB x = true) : Rep V M w (.v x) x
  | opq {x : Value} : Rep V M w .opq x
  | und : Rep V M w .und undef
  | fn {f : FuncId} {cs : List (D κ)} {vs : Array Value} (hn : vs.size = cs.length) (h : ∀ i d, cs[i]? = some d → Rep V M w d (vs.getD i undef)) : Rep V M w (.fn f cs) (.func (.func f) #[] vs)
  | agg {cs : List (D κ)} {vs : Array Value} (hn : vs.size = cs.length) (h1 : ∀ i, i < cs.length → (vs.getD i undef).oneCell' = true) (h : ∀ i d, cs[i]? = some d → Rep V M w d (vs.getD i undef)) : Rep V M w (.agg cs) (.agg vs)
  | tup {cs : List (D κ)} {vs : Array Value} (hn : vs.size = cs.length) (h : ∀ i d, cs[i]? = some d → Rep V M w d (vs.getD i undef)) : Rep V M w (.tup cs) (.tuple vs)
  | nil {sz by_ c : Nat} {f : Nat → Nat → D κ} {A : Option Addr} (hc : c ≤ maxLen) (hA : A = none → c = 0) : Rep V M w (.sl sz by_ 0 f) (.slice A 0 c)
  | sl {sz by_ n c b o : Nat} {f : Nat → Nat → D κ} (u : Nat → Nat → Value) (hc : n ≤ c) (hm : c ≤ maxLen) (hb : n * by_ ≤ 140737488355328)
      (hu : ∀ i j, i < n → j < sz → M b (o + i * sz + j) ∧ w.cell? ⟨b, o + i * sz + j, none⟩ = some (u i j) ∧ (u i j).oneCell' = true)
      (h : ∀ i j, i < n → j < sz → Rep V M w (f i j) (u i j)) : Rep V M w (.sl sz by_ n f) (.slice (some ⟨b, o, none⟩) n c)
  | rc {k : κ} {x : Value} (h : Rep V M w (.sl (V k).1 (V k).2.1 (V k).2.2.1 (V k).2.2.2) x) : Rep V M w (.rc k) x
  | ref {n b o : Nat} {f : Nat → D κ} (u : Nat → Value) (hu : ∀ j, j < n → M b (o + j) ∧ w.cell? ⟨b, o + j, none⟩ = some (u j) ∧ (u j).oneCell' = true) (h : ∀ j, j < n → Rep V M w (f j) (u j)) :
      Rep V M w (.ref n f) (.pointer (some ⟨b, o, none⟩))

section
variable {κ : Type} {V : VW κ} {M M' : Nat → Nat → Prop} {w w' : World}

theorem Rep.mono {d : D κ} {x : Value} (h : Rep V M w d x) (hM : ∀ b o, M b o → M' b o) (hw : ∀ b o, M b o → w'.cell? ⟨b, o, none⟩ = w.cell? ⟨b, o, none⟩) : Rep V M' w' d x := by
  induction h with
  | v h => exact .v h
  | opq => exact .opq
  | und => exact .und
  | fn hn _ ih => exact .fn hn ih
  | agg hn h1 _ ih => exact .agg hn h1 ih
  | tup hn _ ih => exact .tup hn ih
  | nil hc hA => exact .nil hc hA
  | sl u hc hm hb hu _ ih => exact .sl u hc hm hb (fun i j hi hj => have ⟨a, b, c⟩ := hu i j hi hj; ⟨hM _ _ a, (hw _ _ a).trans b, c⟩) ih
  | rc _ ih => exact .rc ih
  | ref u hu _ ih => exact .ref u (fun j hj => have ⟨a, b, c⟩ := hu j hj; ⟨hM _ _ a, (hw _ _ a).trans b, c⟩) ih

theorem Rep.val {x y : Value} (h : Rep V M w (.v x : D κ) y) : y = x ∧ okB x = true := by
  cases h with
  | v h => exact ⟨rfl, h⟩

/-- The datum as a slice; nil takes the cells and bytes that are asked for. -/
def D.asSl (V : VW κ) (s b : Nat) : D κ → Option (Nat × Nat × Nat × (Nat → Nat → D κ))
  | .sl sz by_ n f => some (sz, by_, n, f)
  | .rc k => some (V k)
  | .v (.slice none 0 0) => some (s, b, 0, fun _ _ => .opq)
  | _ => none

theorem Rep.asSl {s b sz by_ n : Nat} {f : Nat → Nat → D κ} {d : D κ} {x : Value} (h : Rep V M w d x) (hd : d.asSl V s b = some (sz, by_, n, f)) : Rep V M w (.sl sz by_ n f) x := by
  cases h with
  | v h =>
    unfold D.asSl at hd
    split at hd <;> try contradiction
    rename_i he
    injection he with he
    subst he
    injection hd with hd
    injection hd with h1 hd
    injection hd with h2 hd
    injection hd with h3 hd
    subst h1 h2 h3 hd
    exact .nil (by decide) (fun _ => rfl)
  | sl u hc hm hb hu h =>
    simp only [D.asSl] at hd
    injection hd with hd
    injection hd with h1 hd
    injection hd with h2 hd
    injection hd with h3 hd
    subst h1 h2 h3 hd
    exact .sl u hc hm hb hu h
  | nil hc hA =>
    simp only [D.asSl] at hd
    injection hd with hd
    injection hd with h1 hd
    injection hd with h2 hd
    injection hd with h3 hd
    subst h1 h2 h3 hd
    exact .nil hc hA
  | rc h =>
    simp only [D.asSl] at hd
    injection hd with hd
    rw [hd] at h
    exact h
  | _ => simp [D.asSl] at hd

/-- A slice's value has the datum's length. -/
theorem Rep.slice {sz by_ n : Nat} {f : Nat → Nat → D κ} {x : Value} (h : Rep V M w (.sl sz by_ n f) x) : ∃ A c, x = .slice A n c ∧ n ≤ c ∧ c ≤ maxLen ∧ n * by_ ≤ 140737488355328 ∧ (A = none → n = 0 ∧ c = 0) := by
  cases h with
  | nil hc hA => exact ⟨_, _, rfl, Nat.zero_le _, hc, by omega, fun h => ⟨rfl, hA h⟩⟩
  | sl u hc hm hb _ _ => exact ⟨_, _, rfl, hc, hm, hb, fun h => by cases h⟩
end

/-! ## Types -/

inductive TyK where
  | int (k : IntKind)
  | bool
  | str
  | struct (fs : List (Nat × Nat))
  | arr (n e : Nat)
  | sl (e : Nat)
  | other
/-- A type: its form, cells, bytes, zero. -/
structure TyI where
  k : TyK
  size : Nat
  bytes : Nat
  zero : Value
def TyI.isAgg (i : TyI) : Bool := match i.k with | .struct _ => true | .arr _ _ => true | _ => false

def TyI.known (i : TyI) : Bool := match i.k with | .other => false | _ => true
theorem TyI.known_ne {i : TyI} (h : i.known = true) : i.k ≠ .other := by
  intro e
  simp [TyI.known, e] at h

/-- What the program says of the type's form. -/
def KOk (P : Program) (t : TypeId) : TyK → Prop
  | .int k => P.underlying t = some (.int k)
  | .bool => P.underlying t = some .bool
  | .str => P.underlying t = some .string
  | .sl e => P.underlying t = some (.slice e)
  | .arr n e => P.underlying t = some (.array n e)
  | .struct fs => ∃ fa : Array Field, P.underlying t = some (.struct fa) ∧ fs = fa.toList.map (fun F => (F.type, F.offset)) ∧ ∀ F ∈ fa.toList, ∃ i, P.info? F.type = some i ∧ i.size ≠ 0
  | .other => True
/-- The entry tells the type as the program has it. -/
def TyOk (P : Program) (t : TypeId) (i : TyI) : Prop :=
  match i.k with
  | .other => True
  | k => KOk P t k ∧ 0 < i.bytes ∧ 0 < i.size ∧ i.zero.cells.size = i.size ∧ i.zero.cells.toList.all okB = true ∧ i.isAgg = (match i.zero with | .agg _ => true | _ => false) ∧ ∃ j, P.info? t = some j ∧ j.size = i.size ∧ j.bytes = i.bytes ∧ j.zero = some i.zero

/-! ## Contracts -/

/-- A program, what its recursive codes stand for, and what its calls may count on in memory. -/
structure Cx (κ : Type) where
  P : Program
  V : VW κ
  G : World → Prop
  keep : ∀ w w', G w → Below w.heap.size w w' → G w'
  mixed : P.follows .mixedOrders = true
  T : TypeId → TyI
  tok : ∀ t, TyOk P t (T t)

/-- Cells that may be looked at behind a call: those of before, and new blocks. -/
def MX (M : Nat → Nat → Prop) (w w' : World) (b o : Nat) : Prop := M b o ∨ (w.heap.size ≤ b ∧ b < w'.heap.size)

/-- A function with a text that can be entered. -/
def Ent (P : Program) (f : FuncId) : Prop := ∃ fn c, P.funcs[f]? = some fn ∧ (fn.name == "runtime.NumGoroutine") = false ∧ fn.body = some c

/-- CALLED WITH ARGUMENTS THAT READ AS ds, THE FUNCTION RETURNS A RESULT THAT READS AS d; what was there stays. -/
def Sp {κ : Type} (X : Cx κ) (f : FuncId) (ds : List (D κ)) (d : D κ) : Prop :=
  Ent X.P f ∧ ∀ (M : Nat → Nat → Prop) (w : World) (vs : Array Value), X.G w → (∀ b o, M b o → b < w.heap.size) → vs.size = ds.length → (∀ i d, ds[i]? = some d → Rep X.V M w d (vs.getD i undef)) →
    Calls X.P f vs w fun e w' => ∃ x, e = .returned x ∧ Below w.heap.size w w' ∧ Rep X.V (MX M w w') w' d x

theorem Below.cellM {B : Nat} {w w' : World} (h : Below B w w') {b o : Nat} (hb : b < B) : w'.cell? ⟨b, o, none⟩ = w.cell? ⟨b, o, none⟩ := h.cell (p := ⟨b, o, none⟩) hb
end Go.Proofs.YtfbelaifhgnnlaaDoor
