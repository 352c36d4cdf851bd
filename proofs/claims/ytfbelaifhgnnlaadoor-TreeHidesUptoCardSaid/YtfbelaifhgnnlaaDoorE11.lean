/-
  What an operation leaves alone; heads of loops, over any program.
-/
import Derived.Test.YtfbelaifhgnnlaaDoorE10
namespace Go.Proofs.YtfbelaifhgnnlaaDoor
open Go.RowKit
set_option linter.unusedVariables false
set_option linter.unusedSimpArgs false

section
variable {κ : Type} {X : Cx κ}

theorem condW_mono {b : Bool} {A B A' B' : Prop} (h : condW b A B) (ha : A → A') (hb : B → B') : condW b A' B' := by
  cases b
  · exact hb h
  · exact ha h
theorem condW_mono1 {b : Bool} {A A' : Prop} (h : condW b A False) (ha : A → A') : condW b A' False := condW_mono h ha id

section
variable {K K' : D κ → Prop} (hm : ∀ d, K d → K' d)
include hm
theorem arithW_mono {k : IntKind} {n : Int} (h : arithW k n K) : arithW k n K' := by
  cases k
  case i64 => exact ⟨h.1, hm _ h.2⟩
  all_goals exact hm _ h
theorem intW_mono {op : BinOp} {k : IntKind} {a b : Int} (h : intW op k a b K) : intW op k a b K' := by
  cases op <;> simp only [intW] at h ⊢
  case quo =>
    rcases h with ⟨x, y, z⟩ | ⟨x, y⟩
    · exact .inl ⟨x, y, arithW_mono hm z⟩
    · exact .inr ⟨x, arithW_mono hm y⟩
  case rem =>
    rcases h with ⟨x, y, z⟩ | ⟨x, y⟩
    · exact .inl ⟨x, y, hm _ z⟩
    · exact .inr ⟨x, hm _ y⟩
  all_goals first
    | exact arithW_mono hm h
    | exact hm _ h
    | exact h.elim
theorem shiftW_mono {op : BinOp} {k : IntKind} {a b : Int} (h : shiftW op k a b K) : shiftW op k a b K' := by
  unfold shiftW at h ⊢
  split at h <;> first
    | exact ⟨h.1, hm _ h.2⟩
    | exact h.elim
theorem binW_mono {bt : Bool} {op : BinOp} {x y : D κ} (h : binW bt op x y K) : binW bt op x y K' := by
  unfold binW at h ⊢
  split at h
  · split at h
    · exact shiftW_mono hm h
    · exact condW_mono1 h (intW_mono hm)
  · split at h <;> first
      | exact ⟨h.1, hm _ h.2⟩
      | exact hm _ h
      | exact h.elim
  · split at h <;> first
      | exact condW_mono1 h (hm _)
      | exact h.elim
  · exact h.elim
theorem partW_mono {i : TyI} {off : Nat} {cs : List (D κ)} (h : partW i off cs K) : partW i off cs K' := by
  unfold partW at h ⊢
  refine condW_mono1 h (fun h => ?_)
  split at h
  · simp only [fL_eq] at h ⊢; exact hm _ h
  · simp only [fD_eq] at h ⊢; exact hm _ h
theorem convW_mono {s d : TypeId} {x : D κ} (h : convW X s d x K) : convW X s d x K' := by
  unfold convW at h ⊢
  split at h <;> first
    | exact ⟨h.1, hm _ h.2⟩
    | exact hm _ h
    | exact h.elim
omit hm in
theorem boundsW_mono {lo hi : Option (D κ)} {n : Nat} {J J' : Nat → Nat → Prop} (hj : ∀ a b, J a b → J' a b) (h : boundsW lo hi n J) : boundsW lo hi n J' := by
  unfold boundsW at h ⊢
  split at h
  · exact ⟨h.1, hj _ _ h.2⟩
  · exact h.elim
theorem sliceW_mono {t : TypeId} {x : D κ} {lo hi : Option (D κ)} (h : sliceW X t x lo hi K) : sliceW X t x lo hi K' := by
  unfold sliceW at h ⊢
  split at h
  · exact boundsW_mono (fun _ _ => hm _) h
  · split at h
    · exact condW_mono1 h (boundsW_mono fun _ _ => hm _)
    · exact h.elim
  · exact h.elim
theorem builtinW_mono {b : Builtin} {ts : List TypeId} {xs : List (D κ)} (h : builtinW X b ts xs K) : builtinW X b ts xs K' := by
  unfold builtinW at h ⊢
  split at h
  · unfold lenW at h ⊢
    split at h
    · exact fun e => hm _ (h e)
    · split at h
      · exact fun e => hm _ (h e)
      · exact h.elim
    · exact h.elim
  · unfold mmW at h ⊢
    split at h
    · exact hm _ h
    · exact h.elim
  · unfold mmW at h ⊢
    split at h
    · exact hm _ h
    · exact h.elim
  · exact h.elim
theorem pureW_mono {op : Op} {ev : Operand → D κ} (h : pureW X op ev K) : pureW X op ev K' := by
  unfold pureW at h ⊢
  split at h
  · split at h
    · simp only [fD_eq] at h ⊢; exact condW_mono h (hm _) (hm _)
    · exact h.elim
  · exact binW_mono hm h
  · split at h
    · exact hm _ h
    · exact h.elim
  · split at h
    · exact arithW_mono hm h
    · exact h.elim
  · split at h
    · simp only [fD_eq] at h ⊢; exact condW_mono1 h (hm _)
    · exact h.elim
  · split at h
    · exact builtinW_mono hm h
    · exact h.elim
  · split at h
    · exact ⟨h.1, hm _ h.2⟩
    · exact h.elim
  · split at h
    · split at h
      · exact condW_mono1 h (fun h => ⟨h.1, hm _ h.2⟩)
      · exact h.elim
    · exact h.elim
  · split at h
    · split at h
      · simp only [fN_eq] at h ⊢; exact hm _ h
      · exact h.elim
    · exact h.elim
  · split at h
    · split at h
      · exact h.elim
      · exact partW_mono hm h
    · exact h.elim
  · split at h
    · split at h
      · split at h
        · exact h.elim
        · exact partW_mono hm h
      · exact h.elim
    · exact h.elim
  · exact convW_mono hm h
  · exact sliceW_mono hm h
  · split at h
    · exact hm _ h
    · exact h.elim
  · split at h
    · simp only [fL_eq] at h ⊢; exact hm _ h
    · exact h.elim
  · exact h.elim
end

theorem fillW_mono {pl : Nat → Option (Nat × Nat)} {J J' : List (D κ) → Prop} (hj : ∀ cs, J cs → J' cs) : ∀ (parts : List (Nat × D κ)) (cs : List (D κ)), fillW pl parts cs J → fillW pl parts cs J'
  | [], cs, h => by simp only [fillW, fL_eq] at h ⊢; exact hj _ h
  | p :: r, cs, h => by
    simp only [fillW, fD_eq] at h ⊢
    split at h
    · exact condW_mono1 h (fillW_mono hj r _)
    · exact h.elim
theorem appTo_mono {e g n : Nat} {f : Nat → Nat → D κ} {dx : D κ} {J J' : Nat → Nat → D κ → Prop} (hj : ∀ g e d, J g e d → J' g e d) (h : appTo X e g n f dx J) : appTo X e g n f dx J' := by
  unfold appTo at h ⊢
  split at h
  · exact condW_mono1 h (fun h => ⟨h.1, hj _ _ _ h.2⟩)
  · exact h.elim
theorem appW_mono {t : TypeId} {ds : D κ} {ts : Option Tg} {dx : D κ} {k : Nat} {J J' : Nat → Nat → D κ → Prop} (hj : ∀ g e d, J g e d → J' g e d) (h : appW X t ds ts dx k J) : appW X t ds ts dx k J' := by
  unfold appW at h ⊢
  split at h
  · split at h
    · split at h
      · exact condW_mono1 h (fun h => ⟨h.1, hj _ _ _ h.2⟩)
      · exact h.elim
    · split at h
      · exact condW_mono1 h (appTo_mono hj)
      · exact h.elim
    · exact h.elim
  · exact h.elim

/-- What is not in W stays. -/
structure Fr (W : List Nat) (σ σ' : St κ) : Prop where
  fr : ∀ i, elemB W i = false → σ'.fr i = σ.fr i
  tp : ∀ i l o, elemB W i = false → elemB W l = false → σ.tg (.s i) = some (.ptr l o) → σ'.tg (.s i) = some (.ptr l o)
theorem Fr.refl (W : List Nat) (σ : St κ) : Fr W σ σ := ⟨fun _ _ => rfl, fun _ _ _ _ _ h => h⟩
theorem Fr.trans {W : List Nat} {a b c : St κ} (h : Fr W a b) (g : Fr W b c) : Fr W a c := ⟨fun i hi => (g.fr i hi).trans (h.fr i hi), fun i l o hi hl ht => g.tp i l o hi hl (h.tp i l o hi hl ht)⟩
theorem elemB_app {V W : List Nat} {i : Nat} (h : elemB (V ++ W) i = false) : elemB V i = false ∧ elemB W i = false := by
  constructor
  · cases e : elemB V i
    · rfl
    · rw [elemB_mem.2 (List.mem_append_left _ (elemB_mem.1 e))] at h; exact h
  · cases e : elemB W i
    · rfl
    · rw [elemB_mem.2 (List.mem_append_right _ (elemB_mem.1 e))] at h; exact h
theorem Fr.left {V W : List Nat} {a b : St κ} (h : Fr V a b) : Fr (V ++ W) a b := ⟨fun i hi => h.fr i (elemB_app hi).1, fun i l o hi hl ht => h.tp i l o (elemB_app hi).1 (elemB_app hl).1 ht⟩
theorem Fr.right {V W : List Nat} {a b : St κ} (h : Fr W a b) : Fr (V ++ W) a b := ⟨fun i hi => h.fr i (elemB_app hi).2, fun i l o hi hl ht => h.tp i l o (elemB_app hi).2 (elemB_app hl).2 ht⟩
theorem elemB_one {k i : Nat} (h : elemB [k] i = false) : i ≠ k := fun e => by
  subst e
  simp [elemB, beq_yes] at h

theorem fr_put (o : Oper) (σ : St κ) (d : D κ) (t : Option Tg) : Fr (opDst o) σ (σ.put o.dst d t) := by
  unfold opDst
  split
  · rename_i k hk
    rw [hk]
    refine ⟨fun i hi => ?_, fun i l o' hi hl ht => ?_⟩
    · simp only [St.put, beq_no (elemB_one hi), cond_false]
    · simp only [St.put, beq_no (elemB_one hi), cond_false]; exact ht
  · rename_i hk
    rw [hk]
    exact Fr.refl _ _
theorem fr_box {o : Oper} {l : Nat} (hl : o.dst = some l) (σ : St κ) (cs : List (D κ)) (t : Option Tg) : Fr (opDst o) σ (σ.box l cs t) := by
  unfold opDst
  rw [hl]
  refine ⟨fun i hi => ?_, fun i k o' hi hk ht => ?_⟩
  · simp only [St.box, beq_no (elemB_one hi), cond_false]
  · simp only [St.box, beq_no (elemB_one hi), cond_false]
    rw [ht]
    simp only [killP, beq_no (elemB_one hk), cond_false]
theorem fr_store (W : List Nat) (σ : St κ) (l off n : Nat) (cs : List (D κ)) (t : Option Tg) : Fr W σ (σ.store l off n cs t) := ⟨fun _ _ => rfl, fun _ _ _ _ _ h => h⟩
theorem fr_app {o : Oper} {k : Nat} (hk : o.dst = some k) (σ : St κ) (g e : Nat) (d : D κ) : Fr (opDst o) σ (σ.app k g e d) := by
  unfold opDst
  rw [hk]
  refine ⟨fun i hi => ?_, fun i l o' hi hl ht => ?_⟩
  · simp only [St.app, beq_no (elemB_one hi), cond_false]
  · simp only [St.app, beq_no (elemB_one hi), cond_false]
    rw [ht]
    rfl

/-- An operation leaves the other slots alone. -/
theorem opW_fr {o : Oper} {σ : St κ} {K : St κ → Prop} (h : opW X o σ K) : opW X o σ (fun σ' => K σ' ∧ Fr (opDst o) σ σ') := by
  have hp : ∀ {op : Op}, pureW X op σ.ev (fun d => K (σ.put o.dst d none)) → pureW X op σ.ev (fun d => K (σ.put o.dst d none) ∧ Fr (opDst o) σ (σ.put o.dst d none)) := fun h => pureW_mono (fun d hd => ⟨hd, fr_put o σ d none⟩) h
  unfold opW at h ⊢
  split at h
  · simp only [fD_eq, fT_eq] at h ⊢; exact ⟨h, fr_put _ _ _ _⟩
  · simp only [fD_eq, fT_eq] at h ⊢; exact ⟨h, fr_put _ _ _ _⟩
  · split at h
    · rename_i l hl
      split at h
      · exact condW_mono1 h (fun h => by simp only [fL_eq] at h ⊢; exact ⟨h, fr_box hl _ _ _⟩)
      · exact h.elim
    · exact h.elim
  · split at h
    · rename_i l hl
      split at h
      · simp only [fD_eq] at h ⊢
        exact condW_mono1 h (fun h => by simp only [fL_eq, fT_eq] at h ⊢; exact ⟨h, fr_box hl _ _ _⟩)
      · exact h.elim
    · exact h.elim
  · split at h
    · split at h
      · split at h
        · simp only [fN_eq] at h ⊢; exact ⟨h, fr_put _ _ _ _⟩
        · exact h.elim
      · exact h.elim
    · exact hp h
  · split at h
    · split at h
      · exact condW_mono1 h (fun h => by
          refine partW_mono (fun d hd => ?_) h
          simp only [fT_eq] at hd ⊢
          exact ⟨hd, fr_put _ _ _ _⟩)
      · exact h.elim
    · exact hp h
  · split at h
    · split at h
      · simp only [fD_eq] at h ⊢
        exact condW_mono1 h (fun h => by simp only [fL_eq, fT_eq, fN_eq] at h ⊢; exact ⟨h, fr_store _ _ _ _ _ _ _⟩)
      · exact h.elim
    · exact h.elim
  · split at h
    · split at h
      · exact ⟨h, fr_put _ _ _ _⟩
      · exact h.elim
    · exact hp h
  · split at h
    · exact fillW_mono (fun cs h => ⟨h, fr_put _ _ _ _⟩) _ _ h
    · exact h.elim
  · split at h
    · rename_i hl
      exact condW_mono1 h (fillW_mono (fun cs h => ⟨h, fr_app hl _ _ _ _⟩) _ _)
    · exact h.elim
  · split at h
    · split at h
      · simp only [fL_eq, fD_eq] at h ⊢
        obtain ⟨d, h1, h2⟩ := h
        exact ⟨d, h1, h2, fr_put _ _ _ _⟩
      · exact h.elim
    · split at h
      · rename_i hk
        exact condW_mono1 h (fun h => by
          simp only [fD_eq] at h ⊢
          exact appW_mono (fun g e d h => ⟨h, fr_app hk _ _ _ _⟩) h)
      · exact h.elim
    · exact hp h
  · exact hp h
end
end Go.Proofs.YtfbelaifhgnnlaaDoor
