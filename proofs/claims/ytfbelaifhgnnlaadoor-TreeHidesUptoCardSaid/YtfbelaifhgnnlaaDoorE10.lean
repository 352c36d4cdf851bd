/-
  A call's code, over any program: what it does to the call's state.
-/
import Derived.Test.YtfbelaifhgnnlaaDoorE9
import Derived.Tactics
namespace Go.Proofs.YtfbelaifhgnnlaaDoor
open Go.RowKit
set_option linter.unusedVariables false
set_option linter.unusedSimpArgs false

section
variable {κ : Type}

/-- The slots that a code writes. -/
def opDst (o : Oper) : List Nat := match o.dst with | some k => [k] | none => []
def writes : Code → List Nat
  | .region _ ops _ => ops.toList.flatMap opDst
  | .seq a b => writes a ++ writes b
  | .cond _ a b => writes a ++ writes b
  | .block _ b => writes b
  | .loop b => writes b
  | .scope b => writes b
  | _ => []
def elemB (l : List Nat) (i : Nat) : Bool := match l with | [] => false | k :: r => match Nat.beq i k with | true => true | false => elemB r i
def findB {α : Type} (l : List (Nat × α)) (i : Nat) : Option α := match l with | [] => none | p :: r => match Nat.beq i p.1 with | true => some p.2 | false => findB r i

def St.setB (σ : St κ) (t : Nat) (b : Bool) : St κ := { σ with fr := fun i => bif Nat.beq i t then .v (.bool b) else σ.fr i }
theorem setB_eq {σ : St κ} {t : Nat} {b : Bool} (h : σ.fr t = .v (.bool b)) : σ.setB t b = σ := by
  unfold St.setB
  have : (fun i => bif Nat.beq i t then D.v (.bool b) else σ.fr i) = σ.fr := by
    funext i
    by_cases e : i = t
    · subst e; rw [beq_yes, cond_true, h]
    · rw [beq_no e, cond_false]
  rw [this]

/-- The operations of a region, in the text's order. -/
def opsW (X : Cx κ) (all : List Oper) (K : St κ → Prop) : List Oper → St κ → Prop
  | [], σ => K σ
  | o :: r, σ => match o.guard with
    | none => opW X o σ (opsW X all K r)
    | some (j, want) => match (all[j]?).bind (·.dst) with
      | some t => match σ.fr t with
        | .v (.bool b) => condW b
            (match want with | true => opW X o (σ.setB t true) (opsW X all K r) | false => opsW X all K r ((σ.setB t true).put o.dst .und none))
            (match want with | true => opsW X all K r ((σ.setB t false).put o.dst .und none) | false => opW X o (σ.setB t false) (opsW X all K r))
        | .und => opsW X all K r (σ.put o.dst .und none)
        | _ => False
      | none => False

/-- One datum says no less than the other. -/
def Dle (X : Cx κ) (d e : D κ) : Prop := ∀ M w x, Rep X.V M w d x → Rep X.V M w e x
theorem Dle.refl (X : Cx κ) (d : D κ) : Dle X d d := fun _ _ _ h => h
theorem Dle.of_eq {X : Cx κ} {d e : D κ} (h : d = e) : Dle X d e := h ▸ Dle.refl X d

/-- A state at a loop's head: of the slots in W those on the list L are known, of the own variables those on the list B and those that are kept; C: cells that own their slice. -/
def St.head (σ : St κ) (W : List Nat) (L : List (Nat × D κ × Option Tg)) (B : List (Nat × List (D κ))) (keep : List Nat) (C : List (Nat × List (Nat × Nat × Nat))) : St κ where
  fr := fun i => match elemB W i with
    | true => match findB L i with | some p => p.1 | none => .opq
    | false => σ.fr i
  tg := fun p => match p with
    | .s i => match elemB W i with
      | true => match findB L i with | some p => p.2 | none => none
      | false => match σ.tg (.s i) with
        | some (.ptr l o) => match elemB W l with | true => none | false => some (.ptr l o)
        | _ => match findB L i with | some p => ownOnly p.2 | none => none
    | .c l o => match findB C l with
      | some r => match findB r o with | some p => some (.own p.1 p.2) | none => none
      | none => none
  bx := fun l => match findB B l with
    | some cs => some cs
    | none => match elemB keep l with
      | true => σ.bx l
      | false => none

def tagOk (σ' : St κ) (i : Nat) (t : Option Tg) : Prop :=
  match t with
  | none => True
  | some t => σ'.tg (.s i) = some t ∨ (match t, σ'.fr i with | .own _ _, .v (.slice none 0 0) => True | _, _ => False)
def slotsOk (X : Cx κ) (σ' : St κ) : List (Nat × D κ × Option Tg) → Prop
  | [] => True
  | p :: r => (fD (σ'.fr p.1) fun d => Dle X d p.2.1 ∧ tagOk σ' p.1 p.2.2) ∧ slotsOk X σ' r
def cellsOk (X : Cx κ) : List (D κ) → List (D κ) → Prop
  | [], [] => True
  | d :: r, e :: s => Dle X d e ∧ cellsOk X r s
  | _, _ => False
def boxesOk (X : Cx κ) (σ' : St κ) : List (Nat × List (D κ)) → Prop
  | [] => True
  | p :: r => (match σ'.bx p.1 with | some cs => cellsOk X cs p.2 | none => False) ∧ boxesOk X σ' r
def keepOk (σ σ' : St κ) : List Nat → Prop
  | [] => True
  | l :: r => σ'.bx l = σ.bx l ∧ keepOk σ σ' r
def tagsOk (σ' : St κ) : List (Nat × List (Nat × Nat × Nat)) → Prop
  | [] => True
  | p :: r => (∀ q ∈ p.2, σ'.tg (.c p.1 q.1) = some (.own q.2.1 q.2.2)) ∧ tagsOk σ' r
def labelsL : List (Nat × D κ × Option Tg) → List Nat
  | [] => []
  | p :: r => match p.2.2 with | some (.own g _) => g :: labelsL r | _ => labelsL r
def labelsC : List (Nat × List (Nat × Nat × Nat)) → List Nat
  | [] => []
  | p :: r => p.2.map (·.2.1) ++ labelsC r
def nodupB : List Nat → Bool
  | [] => true
  | k :: r => !elemB r k && nodupB r
/-- A state that can be taken for the head. -/
def HeadOk (X : Cx κ) (σ : St κ) (L : List (Nat × D κ × Option Tg)) (B : List (Nat × List (D κ))) (keep : List Nat) (C : List (Nat × List (Nat × Nat × Nat))) (σ' : St κ) : Prop :=
  nodupB (labelsL L ++ labelsC C) = true ∧ slotsOk X σ' L ∧ boxesOk X σ' B ∧ keepOk σ σ' keep ∧ tagsOk σ' C

/-- The slots of an operation's operands. -/
def seesB (ops : List Oper) (o : Oper) (k : Nat) : Bool :=
  (o.op.operands.toList.any fun x => match x with | .tmp t => Nat.beq t k | _ => false) ||
  (match o.guard with | some (j, _) => (match (ops[j]?).bind (·.dst) with | some t => Nat.beq t k | none => false) | none => false)
def isSer (o : Oper) : Bool :=
  match o.op with
  | .alloc _ => true
  | .box _ _ => true
  | .call c => (match c.callee with | .builtin .append => true | _ => false)
  | _ => false
def isSto (o : Oper) : Bool := match o.op with | .store _ _ _ => true | _ => false
/-- What an operation does in a region whose order is open: a slice's literal is not the call's own to append to. -/
def opWd (X : Cx κ) (o : Oper) (σ : St κ) (K : St κ → Prop) : Prop :=
  match o.op with
  | .buildSlice t n parts => match (X.T t).k, o.dst with
    | .sl e, some l => condW ((X.T e).known && Nat.ble (n * (X.T e).size) 16777216 && Nat.ble (n * (X.T e).bytes) 140737488355328)
        (fillW (fun i => some (i * (X.T e).size, (X.T e).size)) (parts.toList.map fun p => (p.1, σ.ev p.2)) ((List.replicate n ((X.T e).zero.cells.toList.map .v)).flatten) fun cs =>
          K (σ.put o.dst (.sl (X.T e).size (X.T e).bytes n (fun i j => cs.getD (i * (X.T e).size + j) .opq)) none)) False
    | _, _ => False
  | _ => opW X o σ K

/-- Whether operation i must come behind operation j. -/
def behind (ops : List Oper) : Nat → Nat → Nat → Bool
  | 0, _, _ => false
  | n + 1, i, j => match ops[i]? with
    | some o => o.after.toList.any fun e => Region.binds .any e && (Nat.beq e.on j || behind ops n e.on j)
    | none => false
/-- Labels that are not the same variable's. -/
def lneB : Option Nat → Option Nat → Bool
  | some a, some b => !Nat.beq a b
  | _, _ => true
def aptB (ops : List Oper) (x y : Oper) (lx ly : Option Nat) : Bool :=
  (match x.dst with | some k => !seesB ops y k && (match y.dst with | some l => !Nat.beq k l | none => true) | none => true) &&
  (match y.dst with | some k => !seesB ops x k | none => true) && !(isSer x && isSer y) &&
  (match isSto x, isSto y with | false, false => true | true, true => false | true, false => !isSer y && lneB lx ly | false, true => !isSer x && lneB lx ly)
/-- Operations whose order is open may change places; 'lb': the own variables that they read or write. -/
def drawOk (ops : List Oper) (lb : List (Option Nat)) : Bool :=
  (List.range ops.length).all fun i => (match ops[i]? with | some o => o.after.toList.all fun e => !Region.binds .any e || Nat.blt e.on i | none => true) && (List.range i).all fun j => behind ops ops.length i j || (match ops[j]?, ops[i]? with | some x, some y => aptB ops x y (lb.getD j none) (lb.getD i none) | _, _ => true)
/-- The own variable that a tag points to. -/
def labT (σ : St κ) : Option Tg → Option Nat
  | some (.ptr l _) => match σ.bx l with | some _ => some l | none => none
  | _ => none
/-- The own variable that an operation reads or writes. -/
def labW (o : Oper) (σ : St κ) : Option Nat :=
  match o.op with
  | .load _ x => labT σ (σ.tag x)
  | .store _ x _ => labT σ (σ.tag x)
  | _ => none
def fO (t : Option Nat) (K : Option Nat → Prop) : Prop :=
  match t with
  | none => K none
  | some l => K (some l)
theorem fO_eq (t : Option Nat) (K : Option Nat → Prop) : fO t K = K t := by cases t <;> rfl
/-- The operations of a region whose order is open, in the text's order. -/
def opsWd (X : Cx κ) (all : List Oper) (K : St κ → Prop) : List Oper → List (Option Nat) → St κ → Prop
  | [], lb, σ => drawOk all lb.reverse = true ∧ K σ
  | o :: r, lb, σ => match o.guard with
    | none => fO (labW o σ) fun b => opWd X o σ (opsWd X all K r (b :: lb))
    | some (j, want) => match (all[j]?).bind (·.dst) with
      | some t => match σ.fr t with
        | .v (.bool b) => condW b
            (match want with | true => fO (labW o σ) fun c => opWd X o (σ.setB t true) (opsWd X all K r (c :: lb)) | false => opsWd X all K r (none :: lb) ((σ.setB t true).put o.dst .und none))
            (match want with | true => opsWd X all K r (none :: lb) ((σ.setB t false).put o.dst .und none) | false => fO (labW o σ) fun c => opWd X o (σ.setB t false) (opsWd X all K r (c :: lb)))
        | .und => opsWd X all K r (none :: lb) (σ.put o.dst .und none)
        | _ => False
      | none => False
/-- The operations of a region, with cuts between them. -/
inductive RegW (X : Cx κ) (all : List Oper) (K : St κ → Prop) : List Oper → St κ → Prop
  | run {l : List Oper} {σ : St κ} (h : opsW X all K l σ) : RegW X all K l σ
  | cut {l : List Oper} {σ : St κ} (n : Nat) (ι : Type) (L : ι → List (Nat × D κ × Option Tg)) (B : ι → List (Nat × List (D κ))) (keep : List Nat) (C : List (Nat × List (Nat × Nat × Nat))) (inv : ι → Prop)
      (h1 : opsW X all (fun σ' => ∃ y, inv y ∧ HeadOk X σ (L y) (B y) keep C σ') (l.take n) σ) (h2 : ∀ y, inv y → RegW X all K (l.drop n) (σ.head ((l.take n).flatMap opDst) (L y) (B y) keep C)) : RegW X all K l σ
/-- Regions of many conditions. -/
def longB (ops : List Oper) : Bool := Nat.ble 14 (ops.filter (fun o => o.guard.isSome)).length
/-- Codes behind which ways may be brought together. -/
def cutB : Code → Bool
  | .cond _ _ _ => true
  | .region _ ops _ => Nat.ble 3 (ops.toList.filter (fun o => o.guard.isSome)).length
  | _ => false
/-- What a code does. -/
def codeW (X : Cx κ) : Code → (Exit → St κ → Prop) → St κ → Prop
  | .skip, Q, σ => Q .normal σ
  | .label _, Q, σ => Q .normal σ
  | .region _ ops draw, Q, σ => match draw with
    | false => match longB ops.toList with
      | true => RegW X ops.toList (Q .normal) ops.toList σ
      | false => opsW X ops.toList (Q .normal) ops.toList σ
    | true => opsWd X ops.toList (Q .normal) ops.toList [] σ
  | .seq a b, Q, σ => match cutB a with
    | true => codeW X a (fun e σ' => match e with | .normal => codeW X b Q σ' | e => Q e σ') σ ∨
        (∃ (ι : Type) (L : ι → List (Nat × D κ × Option Tg)) (B : ι → List (Nat × List (D κ))) (keep : List Nat) (C : List (Nat × List (Nat × Nat × Nat))) (inv : ι → Prop),
          codeW X a (fun e σ' => match e with | .normal => ∃ y, inv y ∧ HeadOk X σ (L y) (B y) keep C σ' | e => Q e σ') σ ∧ ∀ y, inv y → codeW X b Q (σ.head (writes a) (L y) (B y) keep C))
    | false => codeW X a (fun e σ' => match e with | .normal => codeW X b Q σ' | e => Q e σ') σ
  | .cond c t f, Q, σ => match σ.ev c with
    | .v (.bool b) => condW b (codeW X t Q σ) (codeW X f Q σ)
    | _ => False
  | .block id b, Q, σ => codeW X b (fun e σ' => match e with | .exit i => (match Nat.beq i id with | true => Q .normal σ' | false => Q (.exit i) σ') | e => Q e σ') σ
  | .loop b, Q, σ => ∃ (ι : Type) (L : ι → List (Nat × D κ × Option Tg)) (B : ι → List (Nat × List (D κ))) (keep : List Nat) (C : List (Nat × List (Nat × Nat × Nat))) (inv : ι → Prop) (μ : ι → Nat),
      (∃ x, inv x ∧ HeadOk X σ (L x) (B x) keep C σ) ∧ ∀ x, inv x → codeW X b (fun e σ' => match e with | .normal => ∃ y, inv y ∧ HeadOk X σ (L y) (B y) keep C σ' ∧ μ y < μ x | e => Q e σ') (σ.head (writes b) (L x) (B x) keep C)
  | .exit id, Q, σ => Q (.exit id) σ
  | .goto l, Q, σ => Q (.goto l) σ
  | .ret, Q, σ => Q .ret σ
  | _, _, _ => False

def opOk (N : Nat) (o : Oper) : Bool := (match o.dst with | some k => Nat.blt k N | none => true) && (match o.op with | .store _ _ _ => o.dst.isNone | _ => true)
def codeOk (N : Nat) : Code → Bool
  | .region _ ops _ => ops.toList.all (opOk N)
  | .seq a b => codeOk N a && codeOk N b
  | .cond _ a b => codeOk N a && codeOk N b
  | .block _ b => codeOk N b
  | .loop b => codeOk N b
  | .scope b => codeOk N b
  | _ => true

theorem elemB_mem {l : List Nat} {i : Nat} : elemB l i = true ↔ i ∈ l := by
  induction l with
  | nil => simp [elemB]
  | cons k r ih =>
    by_cases e : i = k
    · subst e; simp [elemB, beq_yes]
    · simp [elemB, beq_no e, ih, e]
theorem findB_mem {α : Type} {l : List (Nat × α)} {i : Nat} {x : α} (h : findB l i = some x) : (i, x) ∈ l := by
  induction l with
  | nil => simp [findB] at h
  | cons p r ih =>
    by_cases e : i = p.1
    · subst e
      simp only [findB, beq_yes, Option.some.injEq] at h
      subst h
      exact List.mem_cons_self
    · simp only [findB, beq_no e] at h
      exact List.mem_cons_of_mem _ (ih h)
end
end Go.Proofs.YtfbelaifhgnnlaaDoor
