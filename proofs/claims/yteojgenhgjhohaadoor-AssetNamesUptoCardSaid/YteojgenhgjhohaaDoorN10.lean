/-
  What a code does to a call's state, as data, over any program.
-/
import Derived.Test.YteojgenhgjhohaaDoorN9c
import Derived.Tactics
namespace Go.Proofs.YteojgenhgjhohaaDoor
open Go.RowKit
set_option linter.unusedVariables false
set_option linter.unusedSimpArgs false

section
variable {κ : Type}
def writes : Code → List Nat
  | .region _ ops _ => ops.toList.flatMap opDst
  | .seq a b => writes a ++ writes b
  | .cond _ a b => writes a ++ writes b
  | .block _ b => writes b
  | .loop b => writes b
  | .scope b => writes b
  | _ => []
def findB {α : Type} (l : List (Nat × α)) (i : Nat) : Option α := match l with | [] => none | p :: r => match Nat.beq i p.1 with | true => some p.2 | false => findB r i

def St.setB (σ : St κ) (t : Nat) (b : Bool) : St κ := { σ with fr := fun i => bif Nat.beq i t then .v (.bool b) else σ.fr i }
theorem setB_eq {σ : St κ} {t : Nat} {b : Bool} (h : σ.fr t = .v (.bool b)) : σ.setB t b = σ := by
  cases σ with
  | mk fr ob =>
    simp only [St.setB, St.mk.injEq, and_true]
    funext i
    by_cases e : i = t
    · subst e; rw [beq_yes]; exact h.symm
    · rw [beq_no e]; rfl
def rangeW (X : Cx κ) (o : Oper) (σ : St κ) (t : TypeId) (m : Operand) (K : St κ → Prop) : Prop :=
  match (X.T t).k, o.dst, σ.ev m with
  | .map _ _ _, some l, .mp ml => (match σ.ob l with
    | none => (match σ.ob ml with
      | some (.map t' es, false) => condW (Nat.beq t t') (K ((σ.ups [(l, .iter ml es.length [], false)]).put o.dst (.ptr l 0))) False
      | _ => False)
    | _ => False)
  | _, _, _ => False
def oneK : TyK → Bool
  | .map .str _ _ => true
  | .map .int _ _ => true
  | _ => false
def nextW (X : Cx κ) (o : Oper) (σ : St κ) (it : Operand) (K : St κ → Prop) : Prop :=
  match σ.ev it with
  | .ptr l 0 => (match σ.ob l with
    | some (.iter ml n sn, false) => (match σ.ob ml with
      | some (.map t es, false) => n = es.length ∧ oneK (X.T t).k = true ∧ (∀ i (p : Value × D κ), es[i]? = some p → i ∉ sn → K ((σ.ups [(l, .iter ml n (i :: sn), false)]).put o.dst (.tup [.v (.bool true), .v p.1, p.2]))) ∧
          ((∀ i, i < es.length → i ∈ sn) → K ((σ.ups []).put o.dst (.tup [.v (.bool false)])))
      | _ => False)
    | _ => False)
  | _ => False
def entryW (X : Cx κ) (o : Oper) (σ : St κ) (it : Operand) (K : St κ → Prop) : Prop :=
  match σ.ev it with
  | .ptr l 0 => (match σ.ob l with
    | some (.iter ml n (i :: _), false) => (match σ.ob ml with
      | some (.map t es, false) => n = es.length ∧ oneK (X.T t).k = true ∧ ∃ p : Value × D κ, es[i]? = some p ∧ K ((σ.ups []).put o.dst (.tup [.v p.1, p.2]))
      | _ => False)
    | _ => False)
  | _ => False
def opN (X : Cx κ) (o : Oper) (σ : St κ) (K : St κ → Prop) : Prop :=
  match o.op with
  | .range t m => rangeW X o σ t m K
  | .next it b => (match b with | true => False | false => nextW X o σ it K)
  | .entry it => entryW X o σ it K
  | _ => opW X o σ K
def opsW (X : Cx κ) (all : List Oper) (K : St κ → Prop) : List Oper → St κ → Prop
  | [], σ => K σ
  | o :: r, σ => match o.guard with
    | none => opN X o σ (opsW X all K r)
    | some (j, want) => match (all[j]?).bind (·.dst) with
      | some t => match σ.fr t with
        | .v (.bool b) => condW b
            (match want with | true => opW X o (σ.setB t true) (opsW X all K r) | false => opsW X all K r ((σ.setB t true).put o.dst .und))
            (match want with | true => opsW X all K r ((σ.setB t false).put o.dst .und) | false => opW X o (σ.setB t false) (opsW X all K r))
        | .und => opsW X all K r (σ.put o.dst .und)
        | _ => False
      | none => False

abbrev Rws (κ : Type) : Type := List (Nat × Nat × Nat × (Nat → Nat → D κ))
def outB (W : List Nat) (l : Nat) : Bool := !elemB W l
def St.head (σ : St κ) (W : List Nat) (L : List (Nat × D κ)) (O : List (Nat × Ob κ)) (keep : List Nat) (R : Rws κ) : St κ where
  fr := fun i => match elemB W i with
    | true => match findB L i with | some d => d | none => .opq
    | false => (σ.fr i).keepB (outB W)
  ob := fun l => match findB R l with
    | some r => some (.row r.1 r.2.1 r.2.2, false)
    | none => match findB O l with
      | some o => some (o, false)
      | none => match elemB keep l with
        | true => match σ.ob l with
          | some (.cells cs, z) => some (.cells (cs.map (D.keepB (outB W))), z)
          | some (.iter _ _ _, _) => some (.dead, false)
          | p => p
        | false => match elemB W l with
          | true => none
          | false => match σ.ob l with
            | some _ => some (.dead, false)
            | none => none
  gv := σ.gv
def dleR (X : Cx κ) (ρ : List (Nat × Option Nat)) (d e : D κ) : Prop :=
  match e with
  | .own l s o n => match findB ρ l with
    | some (some g) => match d with | .own g' s' o' n' => Nat.beq g' g = true ∧ Nat.beq s' s = true ∧ o' = o ∧ n' = n | _ => False
    | some none => match d with | .v (.slice none 0 0) => o = 0 ∧ n = 0 | _ => False
    | none => match d with | .own g' s' o' n' => Nat.beq g' l = true ∧ Nat.beq s' s = true ∧ o' = o ∧ n' = n | _ => False
  | .ptr l o => match findB ρ l with | none => (match d with | .ptr l' o' => Nat.beq l' l = true ∧ Nat.beq o' o = true | _ => False) | some _ => False
  | .mp l => match findB ρ l with | none => (match d with | .mp l' => Nat.beq l' l = true | _ => False) | some _ => False
  | .elt _ _ _ _ => False
  | .opq => True
  | e => e.frzT = true ∧ Dle X d e
def dleL (X : Cx κ) (ρ : List (Nat × Option Nat)) : List (D κ) → List (D κ) → Prop
  | [], [] => True
  | d :: r, e :: s => dleR X ρ d e ∧ dleL X ρ r s
  | _, _ => False
def dleA (X : Cx κ) (ρ : List (Nat × Option Nat)) (d e : D κ) : Prop :=
  match d, e with
  | .agg cs, .agg es => dleL X ρ cs es
  | d, e => dleR X ρ d e
def slotsOk (X : Cx κ) (ρ : List (Nat × Option Nat)) (σ' : St κ) : List (Nat × D κ) → Prop
  | [] => True
  | p :: r => (fD (σ'.fr p.1) fun d => dleA X ρ d p.2) ∧ slotsOk X ρ σ' r
def obsOk (X : Cx κ) (ρ : List (Nat × Option Nat)) (σ' : St κ) : List (Nat × Ob κ) → Prop
  | [] => True
  | p :: r => (match σ'.ob p.1, p.2 with
      | some (.cells cs, false), .cells es => dleL X ρ cs es
      | some (.row e n f, false), .row e' n' f' => Nat.beq e e' = true ∧ n = n' ∧ ∀ i j, i < n → j < (X.T e).size → Dle X (f i j) (f' i j)
      | some (.map t es, false), .map t' es' => Nat.beq t t' = true ∧ MLe X es es'
      | some (.iter m n s, false), .iter m' n' s' => findB ρ m = none ∧ m = m' ∧ n = n' ∧ s = s'
      | _, _ => False) ∧ obsOk X ρ σ' r
def keepOk (σ σ' : St κ) : List Nat → Prop
  | [] => True
  | l :: r => σ'.ob l = σ.ob l ∧ σ.ob l ≠ none ∧ keepOk σ σ' r
def rowsOk (X : Cx κ) (ρ : List (Nat × Option Nat)) (σ' : St κ) : Rws κ → Prop
  | [] => True
  | p :: r => (X.T p.2.1).known = true ∧ (match findB ρ p.1 with
      | some (some g) => (match σ'.ob g with
        | some (.row e n f, false) => Nat.beq e p.2.1 = true ∧ n = p.2.2.1 ∧ ∀ i j, i < n → j < (X.T e).size → Dle X (f i j) (p.2.2.2 i j)
        | _ => False)
      | some none => p.2.2.1 = 0
      | none => False) ∧ rowsOk X ρ σ' r
def rhoL : List (Nat × Option Nat) → List Nat
  | [] => []
  | p :: r => match p.2 with | some g => g :: rhoL r | none => rhoL r
def labIn0 (q : Nat → Bool) : D κ → Bool
  | .ptr l _ => q l
  | .own l _ _ _ => q l
  | .mp l => q l
  | .ifo _ l _ _ => q l
  | _ => true
def labIn (q : Nat → Bool) : D κ → Bool
  | .agg cs => cs.all (labIn0 q)
  | d => labIn0 q d
def Ob.labIn (q : Nat → Bool) : Ob κ → Bool
  | .cells cs => cs.all (labIn0 q)
  | .iter m _ _ => q m
  | _ => true
def HeadOk (X : Cx κ) (σ : St κ) (W : List Nat) (L : List (Nat × D κ)) (O : List (Nat × Ob κ)) (keep : List Nat) (R : Rws κ) (σ' : St κ) : Prop :=
  ∃ ρ : List (Nat × Option Nat), (nodupB (rhoL ρ ++ (keep ++ O.map (·.1))) = true ∧ nodupB (R.map (·.1) ++ (keep ++ O.map (·.1))) = true ∧ nodupB (ρ.map (·.1)) = true ∧ (ρ.all fun p => (findB R p.1).isSome) = true ∧ ((R.all fun p => elemB W p.1) && keep.all (outB W)) = true ∧ (L.all fun p => labIn (fun l => outB W l || (findB O l).isSome || (findB R l).isSome) p.2) = true ∧ (O.all fun p => p.2.labIn (fun l => outB W l || (findB O l).isSome || (findB R l).isSome)) = true) ∧ slotsOk X ρ σ' L ∧ obsOk X ρ σ' O ∧ keepOk σ σ' keep ∧ rowsOk X ρ σ' R
def seesB (ops : List Oper) (o : Oper) (k : Nat) : Bool :=
  (o.op.operands.toList.any fun x => match x with | .tmp t => Nat.beq t k | _ => false) ||
  (match o.guard with | some (j, _) => (match (ops[j]?).bind (·.dst) with | some t => Nat.beq t k | none => false) | none => false)

end
end Go.Proofs.YteojgenhgjhohaaDoor
