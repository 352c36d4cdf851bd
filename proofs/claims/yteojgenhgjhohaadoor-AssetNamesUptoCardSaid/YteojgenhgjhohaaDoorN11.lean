/-
  What an operation leaves alone; heads of loops, over any program.
-/
import Derived.Test.YteojgenhgjhohaaDoorN12
namespace Go.Proofs.YteojgenhgjhohaaDoor
open Go.RowKit
set_option linter.unusedVariables false
set_option linter.unusedSimpArgs false

section
variable {κ : Type} {X : Cx κ}

theorem condW_mono {b : Bool} {A B A' B' : Prop} (h : condW b A B) (ha : A → A') (hb : B → B') : condW b A' B' := by
  cases b
  · exact hb h
  · exact ha h
theorem condW_mono1 {b : Bool} {A A' : Prop} (h : condW b A False) (ha : A → A') : condW b A' False := condW_mono h ha id

theorem boundsW_mono {lo hi : Option (D κ)} {n : Nat} {J J' : Nat → Nat → Prop} (hj : ∀ a b, J a b → J' a b) (h : boundsW lo hi n J) : boundsW lo hi n J' := by
  unfold boundsW at h ⊢
  split at h
  · exact ⟨h.1, hj _ _ h.2⟩
  · exact h.elim
section
theorem aggW_mono : ∀ (fs : List (Nat × Nat)) (i : Nat) (cs ds : List (D κ)) {J J' : Bool → Prop} (hJ : ∀ b, J b → J' b) (h : aggW X fs i cs ds J), aggW X fs i cs ds J' := by
  intro fs
  induction fs with
  | nil => intro i cs ds J J' hJ h; cases cs <;> cases ds <;> first | exact hJ _ h | exact h
  | cons p r ih =>
    intro i cs ds J J' hJ h
    cases cs with
    | nil => cases ds <;> exact h
    | cons c cs =>
      cases ds with
      | nil => exact h
      | cons e ds =>
        simp only [aggW, fD_eq] at h ⊢
        split at h
        · exact condW_mono1 h (ih _ _ _ fun b => hJ _)
        · exact h.elim
variable {K K' : D κ → Prop} (hm : ∀ d, K d → K' d)
  include hm
theorem arithW_mono {k : IntKind} {n : Int} (h : arithW k n K) : arithW k n K' := by
  cases k
  case i64 => exact ⟨h.1, hm _ h.2⟩
  all_goals exact hm _ h
theorem intW_mono {op : BinOp} {k : IntKind} {a b : Int} (h : intW op k a b K) : intW op k a b K' := by
  cases op <;> simp only [intW] at h ⊢
  case quo =>
    rcases h with ⟨x, y, z⟩ | ⟨x, y⟩
    · exact .inl ⟨x, y, arithW_mono hm z⟩
    · exact .inr ⟨x, arithW_mono hm y⟩
  case rem =>
    rcases h with ⟨x, y, z⟩ | ⟨x, y⟩
    · exact .inl ⟨x, y, hm _ z⟩
    · exact .inr ⟨x, hm _ y⟩
  all_goals first
    | exact arithW_mono hm h
    | exact hm _ h
    | exact h.elim
theorem shiftW_mono {op : BinOp} {k : IntKind} {a b : Int} (h : shiftW op k a b K) : shiftW op k a b K' := by
  unfold shiftW at h ⊢
  split at h <;> first
    | exact ⟨h.1, hm _ h.2⟩
    | exact h.elim
theorem cmpW_mono {op : BinOp} {b : Bool} (h : cmpW op b K) : cmpW op b K' := by
  unfold cmpW at h ⊢
  split at h <;> first
    | exact hm _ h
    | exact h.elim
theorem nbW_mono {op : BinOp} {n : Nat} (h : nbW op n K) : nbW op n K' := by
  unfold nbW at h ⊢
  split at h <;> first
    | exact hm _ h
    | exact h.elim
theorem nilW_mono {tk : TyK} {c : Bool} {op : BinOp} {x y : D κ} (h : nilW X tk c op x y K) : nilW X tk c op x y K' := by
  unfold nilW at h ⊢
  split at h
  · split at h
    · exact cmpW_mono hm h
    · exact nbW_mono hm h
    · split at h
      · exact nbW_mono hm h
      · exact h.elim
  · split at h <;> first
      | exact cmpW_mono hm h
      | exact h.elim
  · split at h <;> first
      | exact cmpW_mono hm h
      | exact h.elim
  · split at h <;> first
      | exact condW_mono1 h (cmpW_mono hm)
      | exact cmpW_mono hm h
      | exact h.elim
  · exact h.elim
theorem zeroW_mono {i : TyI} (h : zeroW i K) : zeroW i K' := by
  unfold zeroW at h ⊢
  split at h
  · simp only [fL_eq] at h ⊢; exact hm _ h
  · exact hm _ h
theorem asrtW_mono {t : TypeId} {ok : Bool} {x : D κ} (h : asrtW X t ok x K) : asrtW X t ok x K' := by
  unfold asrtW at h ⊢
  split at h
  · exact h.elim
  · exact h.elim
  · split at h
    · refine condW_mono h (fun h => ?_) (fun h => ?_)
      · rw [fD_eq] at h ⊢
        cases ok
        · exact hm _ h
        · exact hm _ h
      · cases ok
        · exact h.elim
        · exact zeroW_mono (fun d => hm _) h
    · cases ok
      · exact h.elim
      · exact zeroW_mono (fun d => hm _) h
    · exact h.elim
theorem eqW_mono {t : TypeId} {tk : TyK} {op : BinOp} {cs ds : List (D κ)} (h : eqW X t tk op cs ds K) : eqW X t tk op cs ds K' := by
  unfold eqW at h ⊢
  split at h
  · exact condW_mono1 h (aggW_mono _ _ _ _ fun b => cmpW_mono hm)
  · exact h.elim
theorem binW_mono {t : TypeId} {tk : TyK} {c : Bool} {op : BinOp} {x y : D κ} (h : binW X t tk c op x y K) : binW X t tk c op x y K' := by
  unfold binW at h ⊢
  split at h
  · split at h
    · exact shiftW_mono hm h
    · exact condW_mono1 h (intW_mono hm)
  · split at h <;> first
      | exact ⟨h.1, hm _ h.2⟩
      | exact hm _ h
      | exact h.elim
  · split at h <;> first
      | exact condW_mono1 h (hm _)
      | exact h.elim
  · exact eqW_mono hm h
  · exact nilW_mono hm h
theorem partW_mono {i : TyI} {off : Nat} {cs : List (D κ)} (h : partW i off cs K) : partW i off cs K' := by
  unfold partW at h ⊢
  refine condW_mono1 h (fun h => ?_)
  split at h
  · simp only [fL_eq] at h ⊢; exact hm _ h
  · simp only [fD_eq] at h ⊢; exact hm _ h
theorem convW_mono {s d : TypeId} {x : D κ} (h : convW X s d x K) : convW X s d x K' := by
  unfold convW at h ⊢
  split at h <;> first
    | exact ⟨h.1, hm _ h.2⟩
    | exact hm _ h
    | exact h.elim
theorem sliceW_mono {t : TypeId} {x : D κ} {lo hi : Option (D κ)} (h : sliceW X t x lo hi K) : sliceW X t x lo hi K' := by
  unfold sliceW at h ⊢
  split at h
  · exact boundsW_mono (fun _ _ => hm _) h
  · exact condW_mono1 h (boundsW_mono fun _ _ => hm _)
  · split at h
    · exact condW_mono1 h (boundsW_mono fun _ _ => hm _)
    · exact h.elim
  · exact h.elim
theorem builtinW_mono {b : Builtin} {ts : List TypeId} {xs : List (D κ)} (h : builtinW X b ts xs K) : builtinW X b ts xs K' := by
  unfold builtinW at h ⊢
  split at h
  · unfold lenW at h ⊢
    split at h
    · exact fun e => hm _ (h e)
    · exact fun e => hm _ (h e)
    · split at h
      · exact fun e => hm _ (h e)
      · exact h.elim
    · exact h.elim
  · unfold mmW at h ⊢
    split at h
    · exact hm _ h
    · exact h.elim
  · unfold mmW at h ⊢
    split at h
    · exact hm _ h
    · exact h.elim
  · exact h.elim
theorem pureW_mono {op : Op} {ev : Operand → D κ} (h : pureW X op ev K) : pureW X op ev K' := by
  unfold pureW at h ⊢
  split at h
  · split at h
    · simp only [fD_eq] at h ⊢; exact condW_mono h (hm _) (hm _)
    · exact h.elim
  · exact binW_mono hm h
  · split at h
    · exact hm _ h
    · exact h.elim
  · split at h
    · exact arithW_mono hm h
    · exact h.elim
  · split at h
    · simp only [fD_eq] at h ⊢; exact condW_mono1 h (hm _)
    · exact h.elim
  · split at h
    · exact builtinW_mono hm h
    · exact h.elim
  · split at h
    · exact ⟨h.1, hm _ h.2⟩
    · exact condW_mono1 h (fun h => ⟨h.1, partW_mono hm h.2⟩)
    · exact h.elim
  · split at h
    · split at h
      · exact condW_mono1 h (fun h => ⟨h.1, hm _ h.2⟩)
      · split at h
        · exact condW_mono1 h (fun h => ⟨h.1, hm _ h.2⟩)
        · exact h.elim
      · exact h.elim
    · split at h
      · exact condW_mono1 h (fun h => ⟨h.1, hm _ h.2⟩)
      · exact condW_mono1 h (fun h => ⟨h.1, hm _ h.2⟩)
      · exact h.elim
    · exact h.elim
  · split at h
    · split at h
      · simp only [fN_eq] at h ⊢; exact hm _ h
      · exact h.elim
    · split at h
      · simp only [fN_eq] at h ⊢; exact hm _ h
      · exact h.elim
    · split at h
      · simp only [fN_eq] at h ⊢; exact hm _ h
      · exact h.elim
    · exact h.elim
  · split at h
    · split at h
      · exact h.elim
      · exact partW_mono hm h
    · exact h.elim
  · split at h
    · split at h
      · split at h
        · exact h.elim
        · exact partW_mono hm h
      · exact h.elim
    · exact h.elim
  · exact convW_mono hm h
  · exact sliceW_mono hm h
  · split at h
    · exact hm _ h
    · exact hm _ h
    · exact hm _ h
    · exact h.elim
  · exact asrtW_mono hm h
  · split at h
    · simp only [fL_eq] at h ⊢; exact hm _ h
    · exact h.elim
  · exact h.elim
end

theorem fillW_mono {pl : Nat → Option (Nat × Nat)} {J J' : List (D κ) → Prop} (hj : ∀ cs, J cs → J' cs) : ∀ (parts : List (Nat × D κ)) (cs : List (D κ)), fillW pl parts cs J → fillW pl parts cs J'
  | [], cs, h => by simp only [fillW, fL_eq] at h ⊢; exact hj _ h
  | p :: r, cs, h => by
    simp only [fillW, fD_eq] at h ⊢
    split at h
    · exact condW_mono1 h (fillW_mono hj r _)
    · exact h.elim
theorem srcW_mono {ob : Obs κ} {e : Nat} {d : D κ} {J J' : Nat → (Nat → Nat → D κ) → Prop} (hj : ∀ m h, J m h → J' m h) (h : srcW X ob e d J) : srcW X ob e d J' := by
  unfold srcW at h ⊢
  split at h
  · split at h
    · exact condW_mono1 h (fun h => ⟨h.1, hj _ _ h.2⟩)
    · exact h.elim
  · split at h
    · exact condW_mono1 h (hj _ _)
    · exact h.elim
theorem appE_mono {ob : Obs κ} {t : TypeId} {ds dx : D κ} {k : Nat} {J J' : Ups κ → D κ → Prop} (hj : ∀ us d, J us d → J' us d) (h : appE X ob t ds dx k J) : appE X ob t ds dx k J' := by
  unfold appE at h ⊢
  simp only [fN_eq] at h ⊢
  split at h
  · refine condW_mono1 h (fun h => ?_)
    split at h
    · exact srcW_mono (fun m f h => ⟨h.1, hj _ _ h.2⟩) h
    · split at h
      · exact condW_mono1 h (fun h => srcW_mono (fun m f h => ⟨h.1, hj _ _ h.2⟩) h)
      · exact h.elim
    · exact h.elim
  · exact h.elim
theorem strL_mono : ∀ {cs : List (D κ)} {J J' : List ByteArray → Prop}, (∀ l, J l → J' l) → strL cs J → strL cs J'
  | [], _, _, hj, h => hj _ h
  | d :: r, _, _, hj, h => by
    unfold strL at h ⊢
    rw [fD_eq] at h ⊢
    split at h
    · exact strL_mono (fun l => hj _) h
    · exact h.elim
theorem keyW_mono {kf : KF} {d : D κ} {J J' : Value → Prop} (hj : ∀ v, J v → J' v) (h : keyW kf d J) : keyW kf d J' := by
  unfold keyW at h ⊢
  split at h
  · split at h
    · exact hj _ h
    · exact h.elim
  · split at h
    · exact ⟨h.1, hj _ h.2⟩
    · exact h.elim
  · split at h
    · exact condW_mono1 h (strL_mono fun l => hj _)
    · exact h.elim
theorem lookW_mono {ob : Obs κ} {t : TypeId} {ok : Bool} {m k : D κ} {J J' : D κ → Prop} (hj : ∀ d, J d → J' d) (h : lookW X ob t ok m k J) : lookW X ob t ok m k J' := by
  unfold lookW at h ⊢
  split at h
  · split at h
    · split at h
      · refine condW_mono1 h (keyW_mono fun v ⟨q, h1, h2⟩ => ⟨q, h1, ?_⟩)
        rw [fD_eq] at h2 ⊢
        cases ok
        · exact hj _ h2
        · exact hj _ h2
      · exact h.elim
    · obtain ⟨es, hg, h⟩ := h
      refine ⟨es, hg, condW_mono1 h (keyW_mono fun v ⟨q, h1, h2⟩ => ⟨q, h1, ?_⟩)⟩
      rw [fD_eq] at h2 ⊢
      cases ok
      · exact hj _ h2
      · exact hj _ h2
    · exact h.elim
  · exact h.elim
theorem msetW_mono {ob : Obs κ} {t : TypeId} {m k d : D κ} {J J' : Ups κ → Prop} (hj : ∀ us, J us → J' us) (h : msetW X ob t m k d J) : msetW X ob t m k d J' := by
  unfold msetW at h ⊢
  split at h
  · split at h
    · split at h
      · exact condW_mono1 h (keyW_mono fun v => hj _)
      · exact condW_mono1 h (keyW_mono fun v => hj _)
      · exact h.elim
    · exact h.elim
  · exact h.elim
theorem permW_mono {ob : Obs κ} {f : FuncId} {ds : List (D κ)} {J J' : Ups κ → D κ → Prop} (hj : ∀ us d, J us d → J' us d) (h : permW X ob f ds J) : permW X ob f ds J' := by
  unfold permW at h ⊢
  split at h
  · split at h
    · obtain ⟨d, es', h1, h2⟩ := h
      exact ⟨d, es', h1, condW_mono1 h2 fun h => by rw [fD_eq] at h ⊢; exact hj _ _ h⟩
    · exact h.elim
  · exact h.elim
theorem insW_mono {ob : Obs κ} {t : TypeId} {m k d : D κ} {J J' : Ups κ → Prop} (hj : ∀ us, J us → J' us) (h : insW X ob t m k d J) : insW X ob t m k d J' := by
  unfold insW at h ⊢
  refine frzAW_mono (fun us ds h => ?_) h
  split at h
  · exact condW_mono1 h (msetW_mono fun _ => hj _)
  · exact h.elim
theorem mentW_mono {ob : Obs κ} {t : TypeId} {m k : D κ} {J J' : Ups κ → D κ → Prop} (hj : ∀ us d, J us d → J' us d) (h : mentW X ob t m k J) : mentW X ob t m k J' := by
  unfold mentW at h ⊢
  split at h
  · split at h
    · split at h
      · exact condW_mono1 h (keyW_mono fun v h => h.imp (fun ⟨i, p, h1, h2, h3⟩ => ⟨i, p, h1, h2, hj _ _ h3⟩) (fun ⟨h1, h2⟩ => ⟨h1, hj _ _ h2⟩))
      · exact h.elim
    · exact h.elim
  · exact h.elim
theorem estoW_mono {ob : Obs κ} {t : TypeId} {m s d : D κ} {J J' : Ups κ → Prop} (hj : ∀ us, J us → J' us) (h : estoW X ob t m s d J) : estoW X ob t m s d J' := by
  unfold estoW at h ⊢
  split at h
  · split at h
    · exact condW_mono1 h (fun ⟨i, p, h1, h2, h3⟩ => ⟨i, p, h1, h2, hj _ h3⟩)
    · exact h.elim
  · exact h.elim
theorem opE_mono {o : Oper} {ev : Operand → D κ} {ob : Obs κ} {J J' : Ups κ → D κ → Prop} (hj : ∀ us d, J us d → J' us d) (h : opE X o ev ob J) : opE X o ev ob J' := by
  unfold opE at h ⊢
  split at h
  · simp only [fD_eq] at h ⊢; exact hj _ _ h
  · simp only [fD_eq] at h ⊢; exact hj _ _ h
  · split at h
    · split at h
      · exact condW_mono1 h (fun h => by simp only [fL_eq] at h ⊢; exact hj _ _ h)
      · exact h.elim
    · exact h.elim
  · split at h
    · split at h
      · simp only [fD_eq] at h ⊢
        exact condW_mono1 h (fun h => by simp only [fL_eq] at h ⊢; exact hj _ _ h)
      · exact h.elim
    · exact h.elim
  · split at h
    · split at h
      · exact condW_mono1 h (partW_mono (fun d => hj _ _))
      · exact h.elim
    · split at h
      · exact condW_mono1 h (fun h => ⟨h.1, partW_mono (fun d => hj _ _) h.2⟩)
      · exact h.elim
    · exact pureW_mono (fun d => hj _ _) h
  · split at h
    · split at h
      · simp only [fD_eq] at h ⊢
        exact condW_mono1 h (fun h => by simp only [fL_eq] at h ⊢; exact hj _ _ h)
      · exact h.elim
    · split at h
      · simp only [fD_eq] at h ⊢
        exact condW_mono1 h (fun h => ⟨h.1, hj _ _ h.2⟩)
      · exact h.elim
    · exact h.elim
  · split at h
    · exact fillW_mono (fun cs => hj _ _) _ _ h
    · exact condW_mono1 h (fillW_mono (fun cs => hj _ _) _ _)
    · exact h.elim
  · split at h
    · split at h
      · exact condW_mono1 h (fillW_mono (fun cs h => condW_mono1 h (hj _ _)) _ _)
      · exact h.elim
    · exact h.elim
  · split at h
    · split at h
      · exact condW_mono1 h (fun h => by simp only [fN_eq] at h ⊢; exact ⟨h.1, hj _ _ h.2⟩)
      · exact h.elim
    · exact h.elim
  · split at h
    · split at h
      · simp only [fL_eq] at h ⊢
        rcases h with (h | h) | ⟨H, H', d, h1, h2, h3, h4⟩
        · exact .inl (.inl (frzAW_mono (fun us ds ⟨d, h1, h2⟩ => ⟨d, h1, by simp only [fD_eq] at h2 ⊢; exact condW_mono1 h2 (hj _ _)⟩) h))
        · exact .inl (.inr ⟨permW_mono hj h.h⟩)
        · exact .inr ⟨H, H', d, h1, h2, h3, by simp only [fD_eq] at h4 ⊢; exact hj _ _ h4⟩
      · simp only [fL_eq] at h ⊢
        rcases h with h | h
        · exact .inl (frzAW_mono (fun us ds ⟨d, h1, h2⟩ => ⟨d, h1, by simp only [fD_eq] at h2 ⊢; exact condW_mono1 h2 (hj _ _)⟩) h)
        · exact h.elim
      · exact h.elim
    · split at h
      · exact condW_mono1 h (fun h => by simp only [fD_eq] at h ⊢; exact appE_mono hj h)
      · exact h.elim
    · exact pureW_mono (fun d => hj _ _) h
  · split at h
    · exact condW_mono1 h (srcW_mono fun m f ⟨g, h1, h2⟩ => ⟨g, h1, hj _ _ h2⟩)
    · exact pureW_mono (fun d => hj _ _) h
  · split at h
    · exact h.elim
    · exact h.elim
    · rcases h with h | h
      · refine .inl (frzAW_mono (fun us ds h => ?_) h)
        split at h
        · exact condW_mono1 h (hj _ _)
        · exact h.elim
      · obtain ⟨l, s, n, he, h⟩ := ifoW_spec h
        exact .inr (by rw [he]; exact hj _ _ h)
    · refine frzAW_mono (fun us ds h => ?_) h
      split at h
      · exact condW_mono1 h (hj _ _)
      · exact h.elim
  · split at h
    · exact frzAW_mono (fun us ds h => condW_mono1 h (hj _ _)) h
    · exact pureW_mono (fun d => hj _ _) h
  · split at h
    · split at h
      · exact condW_mono1 h (fun h => h.imp (hj _ _) fun h => ⟨hj _ _ h.h⟩)
      · exact h.elim
    · exact h.elim
  · simp only [fD_eq] at h ⊢; exact insW_mono (fun us => hj _ _) h
  · simp only [fD_eq] at h ⊢; exact insW_mono (fun us => hj _ _) h
  · exact lookW_mono (fun d => hj _ _) h
  · exact mentW_mono hj h
  · simp only [fD_eq] at h ⊢; exact estoW_mono (fun us => hj _ _) h
  · exact pureW_mono (fun d => hj _ _) h

theorem keep0_and {p q : Nat → Bool} (d : D κ) : D.keep0 p (D.keep0 q d) = D.keep0 (fun l => p l && q l) d := by
  cases d with
  | ptr k o => simp only [D.keep0]; cases q k <;> cases hp : p k <;> simp [D.keep0, hp]
  | elt k s i j => simp only [D.keep0]; cases q k <;> cases hp : p k <;> simp [D.keep0, hp]
  | own k s o n => simp only [D.keep0]; cases q k <;> cases hp : p k <;> simp [D.keep0, hp]
  | mp k => simp only [D.keep0]; cases q k <;> cases hp : p k <;> simp [D.keep0, hp]
  | ifo t k s n => simp only [D.keep0]; cases q k <;> cases hp : p k <;> simp [D.keep0, hp]
  | _ => rfl
theorem keep1_and {p q : Nat → Bool} (d : D κ) : D.keep1 p (D.keep1 q d) = D.keep1 (fun l => p l && q l) d := by
  have key : ∀ d : D κ, D.keep1 p (D.keep0 q d) = D.keep0 (fun l => p l && q l) d := fun d => by
    cases d with
    | ptr k o => simp only [D.keep0]; cases q k <;> cases hp : p k <;> simp [D.keep1, D.keep0, hp]
    | elt k s i j => simp only [D.keep0]; cases q k <;> cases hp : p k <;> simp [D.keep1, D.keep0, hp]
    | own k s o n => simp only [D.keep0]; cases q k <;> cases hp : p k <;> simp [D.keep1, D.keep0, hp]
    | mp k => simp only [D.keep0]; cases q k <;> cases hp : p k <;> simp [D.keep1, D.keep0, hp]
    | ifo t k s n => simp only [D.keep0]; cases q k <;> cases hp : p k <;> simp [D.keep1, D.keep0, hp]
    | _ => rfl
  cases d with
  | agg cs => simp only [D.keep1, List.map_map]; congr 1; exact List.map_congr_left fun c _ => keep0_and c
  | v x => exact key (.v x)
  | sl a b n f => exact key (.sl a b n f)
  | rc k => exact key (.rc k)
  | ref n f => exact key (.ref n f)
  | ptr k o => exact key (.ptr k o)
  | elt k s i j => exact key (.elt k s i j)
  | own k s o n => exact key (.own k s o n)
  | ifc t d => exact key (.ifc t d)
  | mp k => exact key (.mp k)
  | ifo t k s n => exact key (.ifo t k s n)
  | nb q n => exact key (.nb q n)
  | mfn f fs => exact key (.mfn f fs)
  | und => exact key (.und)
  | opq => exact key (.opq)
  | tup cs => exact key (.tup cs)
  | fn f cs => exact key (.fn f cs)
theorem keepB_and {p q : Nat → Bool} (d : D κ) : D.keepB p (D.keepB q d) = D.keepB (fun l => p l && q l) d := by
  have key : ∀ d : D κ, (∀ cs, d ≠ .agg cs) → D.keepB p (D.keep0 q d) = D.keep0 (fun l => p l && q l) d := fun d hd => by
    cases d with
    | ptr k o => simp only [D.keep0]; cases q k <;> cases hp : p k <;> simp [D.keepB, D.keep1, D.keep0, hp]
    | elt k s i j => simp only [D.keep0]; cases q k <;> cases hp : p k <;> simp [D.keepB, D.keep1, D.keep0, hp]
    | own k s o n => simp only [D.keep0]; cases q k <;> cases hp : p k <;> simp [D.keepB, D.keep1, D.keep0, hp]
    | mp k => simp only [D.keep0]; cases q k <;> cases hp : p k <;> simp [D.keepB, D.keep1, D.keep0, hp]
    | ifo t k s n => simp only [D.keep0]; cases q k <;> cases hp : p k <;> simp [D.keepB, D.keep1, D.keep0, hp]
    | _ => rfl
  cases d with
  | tup cs => simp only [D.keepB, List.map_map]; congr 1; exact List.map_congr_left fun c _ => keep1_and c
  | fn f cs => simp only [D.keepB, List.map_map]; congr 1; exact List.map_congr_left fun c _ => keep1_and c
  | agg cs => exact keep1_and (.agg cs)
  | v x => exact key (.v x) (fun _ h => by cases h)
  | sl a b n f => exact key (.sl a b n f) (fun _ h => by cases h)
  | rc k => exact key (.rc k) (fun _ h => by cases h)
  | ref n f => exact key (.ref n f) (fun _ h => by cases h)
  | ptr k o => exact key (.ptr k o) (fun _ h => by cases h)
  | elt k s i j => exact key (.elt k s i j) (fun _ h => by cases h)
  | own k s o n => exact key (.own k s o n) (fun _ h => by cases h)
  | ifc t d => exact key (.ifc t d) (fun _ h => by cases h)
  | mp k => exact key (.mp k) (fun _ h => by cases h)
  | ifo t k s n => exact key (.ifo t k s n) (fun _ h => by cases h)
  | nb q n => exact key (.nb q n) (fun _ h => by cases h)
  | mfn f fs => exact key (.mfn f fs) (fun _ h => by cases h)
  | und => exact key (.und) (fun _ h => by cases h)
  | opq => exact key (.opq) (fun _ h => by cases h)
structure Fr (W : List Nat) (σ σ' : St κ) : Prop where
  f : ∀ i, elemB W i = false → (σ'.fr i).keepB (outB W) = (σ.fr i).keepB (outB W)
  o : ∀ l, elemB W l = false → σ.ob l = none → σ'.ob l = none
  g : σ'.gv = σ.gv
theorem Fr.refl (W : List Nat) (σ : St κ) : Fr W σ σ := ⟨fun _ _ => rfl, fun _ _ h => h, rfl⟩
theorem Fr.trans {W : List Nat} {a b c : St κ} (h : Fr W a b) (g : Fr W b c) : Fr W a c := ⟨fun i hi => (g.f i hi).trans (h.f i hi), fun l hl e => g.o l hl (h.o l hl e), g.g.trans h.g⟩
theorem elem_no {W : List Nat} {i : Nat} (h : elemB W i = false) : i ∉ W := fun hm => by rw [elemB_mem.2 hm] at h; cases h
theorem elem_not {W : List Nat} {i : Nat} (h : i ∉ W) : elemB W i = false := by
  cases e : elemB W i
  · rfl
  · exact absurd (elemB_mem.1 e) h
theorem Fr.sub {V W : List Nat} {a b : St κ} (h : Fr V a b) (hs : ∀ k ∈ V, k ∈ W) : Fr W a b := by
  have hv : ∀ i, elemB W i = false → elemB V i = false := fun i hi => elem_not fun hm => elem_no hi (hs i hm)
  refine ⟨fun i hi => ?_, fun l hl => h.o l (hv l hl), h.g⟩
  have e := congrArg (D.keepB (outB W)) (h.f i (hv i hi))
  rw [keepB_and, keepB_and] at e
  have hp : (fun l => outB W l && outB V l) = outB W := funext fun l => by
    unfold outB
    cases hl : elemB W l with
    | true => rfl
    | false => rw [hv l hl]; rfl
  rw [hp] at e
  exact e
theorem ups_fr : ∀ (us : Ups κ) (σ : St κ), (σ.ups us).fr = σ.fr
  | [], _ => rfl
  | p :: r, σ => (ups_fr r _).trans rfl
def UpsOk (o : Oper) (ob : Obs κ) (us : Ups κ) : Prop := ∀ p ∈ us, elemB (opDst o) p.1 = true ∨ ob p.1 ≠ none
theorem fr_put (o : Oper) (σ : St κ) (us : Ups κ) (d : D κ) (hu : UpsOk o σ.ob us) : Fr (opDst o) σ ((σ.ups us).put o.dst d) := by
  refine ⟨fun i hi => ?_, fun l hl e => ?_, by cases o.dst <;> exact (ups_frgv us σ).2⟩
  · unfold opDst at hi
    cases hd : o.dst with
    | none => simp only [St.put]; rw [ups_fr]
    | some k =>
      rw [hd] at hi
      have : ¬ i = k := fun e => elem_no hi (by simp only; split <;> simp [e])
      simp only [St.put, beq_no this, cond_false]
      rw [ups_fr]
  · have h1 : (σ.ups us).ob l = none := (ups_none us σ l fun p hp e' => by
      rcases hu p hp with h | h
      · rw [e', hl] at h; cases h
      · exact h (e' ▸ e)).trans e
    cases o.dst with
    | none => exact h1
    | some k => exact h1
theorem upd0 {o : Oper} {ob : Obs κ} : UpsOk o ob [] := fun p hp => by cases hp
theorem updD {o : Oper} {ob : Obs κ} {l : Nat} {x : Ob κ × Bool} (h : o.dst = some l) : UpsOk o ob [(l, x)] := fun p hp => by
  cases hp with
  | head => exact .inl (by unfold opDst; rw [h]; exact elemB_mem.2 (by simp only; split <;> simp))
  | tail _ hp => cases hp
theorem updS {o : Oper} {ob : Obs κ} {l : Nat} {x : Ob κ × Bool} {y : Ob κ × Bool} (h : ob l = some y) : UpsOk o ob [(l, x)] := fun p hp => by
  cases hp with
  | head => exact .inr (by rw [h]; exact fun e => by cases e)
  | tail _ hp => cases hp
theorem updA {o : Oper} {ob : Obs κ} {a b : Ups κ} (ha : UpsOk o ob a) (hb : UpsOk o ob b) : UpsOk o ob (a ++ b) := fun p hp => (List.mem_append.1 hp).elim (ha p) (hb p)
theorem frzR_upd {o : Oper} {ob : Obs κ} {d : D κ} {J : Ups κ → D κ → Prop} (h : frzRW X ob d J) : frzRW X ob d (fun us d => J us d ∧ UpsOk o ob us) := by
  unfold frzRW at h ⊢
  split at h
  · split at h
    · rename_i hob
      exact condW_mono1 h (fun h => ⟨h.1, h.2, updS hob⟩)
    · exact h.elim
  · exact ⟨h, upd0⟩
theorem frzRL_upd {o : Oper} {ob : Obs κ} : ∀ (l : List (D κ)) {J : Ups κ → List (D κ) → Prop}, frzRL X ob l J → frzRL X ob l (fun us ds => J us ds ∧ UpsOk o ob us)
  | [], J, h => ⟨h, upd0⟩
  | d :: r, J, h => frzRW_mono (fun us d h => frzRL_mono (fun us' ds h' => ⟨h'.1, updA h.2 h'.2⟩) (frzRL_upd r h.1)) (frzR_upd (o := o) h)
theorem frz0_upd {o : Oper} {ob : Obs κ} {d : D κ} {J : Ups κ → D κ → Prop} (h : frz0W X ob d J) : frz0W X ob d (fun us d => J us d ∧ UpsOk o ob us) := by
  unfold frz0W at h ⊢
  split at h
  · split at h
    · rename_i hob
      refine frzRL_mono (fun us cs h => ?_) (frzRL_upd (o := o) _ h)
      refine condW_mono1 h.1 (fun h1 => ?_)
      simp only [fN_eq] at h1 ⊢
      exact ⟨h1, updA h.2 (updS hob)⟩
    · exact h.elim
  · exact frzR_upd h
theorem frzL_upd {o : Oper} {ob : Obs κ} : ∀ (l : List (D κ)) {J : Ups κ → List (D κ) → Prop}, frzLW X ob l J → frzLW X ob l (fun us ds => J us ds ∧ UpsOk o ob us)
  | [], J, h => ⟨h, upd0⟩
  | d :: r, J, h => frz0W_mono (fun us d h => frzLW_mono (fun us' ds h' => ⟨h'.1, updA h.2 h'.2⟩) (frzL_upd r h.1)) (frz0_upd (o := o) h)
theorem frz_upd {o : Oper} {ob : Obs κ} {d : D κ} {J : Ups κ → D κ → Prop} (h : frzW X ob d J) : frzW X ob d (fun us d => J us d ∧ UpsOk o ob us) := by
  unfold frzW at h ⊢
  split at h
  · exact frzL_upd _ h
  · exact frzL_upd _ h
  · exact frz0_upd h
theorem frzA_upd {o : Oper} {ob : Obs κ} : ∀ (l : List (D κ)) {J : Ups κ → List (D κ) → Prop}, frzAW X ob l J → frzAW X ob l (fun us ds => J us ds ∧ UpsOk o ob us)
  | [], J, h => ⟨h, upd0⟩
  | d :: r, J, h => frzW_mono (fun us d h => frzAW_mono (fun us' ds h' => ⟨h'.1, updA h.2 h'.2⟩) (frzA_upd r h.1)) (frz_upd (o := o) h)
theorem app_upd {o : Oper} {ob : Obs κ} {t : TypeId} {ds dx : D κ} {k : Nat} {J : Ups κ → D κ → Prop} (hk : o.dst = some k) (h : appE X ob t ds dx k J) : appE X ob t ds dx k (fun us d => J us d ∧ UpsOk o ob us) := by
  unfold appE at h ⊢
  simp only [fN_eq] at h ⊢
  split at h
  · refine condW_mono1 h (fun h => ?_)
    split at h
    · exact srcW_mono (fun m f h => ⟨h.1, h.2, updD hk⟩) h
    · split at h
      · rename_i hob
        exact condW_mono1 h (fun h => srcW_mono (fun m f h => ⟨h.1, h.2, updA (updS (x := (.dead, false)) hob) (updD hk)⟩) h)
      · exact h.elim
    · exact h.elim
  · exact h.elim
theorem hasW_some {ob : Obs κ} {H : List (Nat × Ob κ)} (h : hasW X ob H) {p : Nat × Ob κ} (hp : p ∈ H) : ob p.1 ≠ none := by
  rcases hasW_mem h (l := p.1) (o := p.2) hp with ⟨cs, es, h1, _⟩ | ⟨e, n, f, f', h1, _⟩ | ⟨t, es, es', h1, _⟩ <;> rw [h1] <;> exact fun e => by cases e
theorem updL {o : Oper} {ob : Obs κ} {H H' : List (Nat × Ob κ)} {d : D κ} (hB : lentB (opDst o) ob H H' d = true) (hH : hasW X ob H) : UpsOk o ob (lentU H H') := by
  unfold lentB at hB
  simp only [Bool.and_eq_true] at hB
  obtain ⟨⟨⟨_, n3⟩, _⟩, _⟩ := hB
  refine updA (fun p hp => ?_) (fun p hp => ?_)
  · obtain ⟨q, hq, rfl⟩ := List.mem_map.1 hp
    exact .inr (hasW_some hH hq)
  · obtain ⟨q, hq, rfl⟩ := List.mem_map.1 hp
    have h1 := List.all_eq_true.1 n3 q hq
    rw [Bool.or_eq_true] at h1
    rcases h1 with h1 | h1
    · obtain ⟨q', hq', e⟩ := List.mem_map.1 (elemB_mem.1 h1)
      exact .inr (e ▸ hasW_some hH hq')
    · rw [Bool.and_eq_true] at h1
      exact .inl h1.1
theorem mset_upd {o : Oper} {ob : Obs κ} {t : TypeId} {m k d : D κ} {J : Ups κ → Prop} (h : msetW X ob t m k d J) : msetW X ob t m k d (fun us => J us ∧ UpsOk o ob us) := by
  unfold msetW at h ⊢
  split at h
  · split at h
    · split at h
      · rename_i hob
        exact condW_mono1 h (keyW_mono fun v h => ⟨h, updS hob⟩)
      · rename_i hob
        exact condW_mono1 h (keyW_mono fun v h => ⟨h, updA (updS hob) (updS hob)⟩)
      · exact h.elim
    · exact h.elim
  · exact h.elim
theorem perm_upd {o : Oper} {ob : Obs κ} {f : FuncId} {ds : List (D κ)} {J : Ups κ → D κ → Prop} (h : permW X ob f ds J) : permW X ob f ds (fun us d => J us d ∧ UpsOk o ob us) := by
  unfold permW at h ⊢
  split at h
  · split at h
    · rename_i hob
      obtain ⟨d, es', h1, h2⟩ := h
      exact ⟨d, es', h1, condW_mono1 h2 fun h => by rw [fD_eq] at h ⊢; exact ⟨h, updS hob⟩⟩
    · exact h.elim
  · exact h.elim
theorem ins_upd {o : Oper} {ob : Obs κ} {t : TypeId} {m k d : D κ} {J : Ups κ → Prop} (h : insW X ob t m k d J) : insW X ob t m k d (fun us => J us ∧ UpsOk o ob us) := by
  unfold insW at h ⊢
  refine frzAW_mono (fun us ds h => ?_) (frzA_upd (o := o) _ h)
  obtain ⟨h, hu⟩ := h
  split at h
  · exact condW_mono1 h (fun h => msetW_mono (fun _ h => ⟨h.1, updA hu h.2⟩) (mset_upd (o := o) h))
  · exact h.elim
theorem ment_upd {o : Oper} {ob : Obs κ} {t : TypeId} {m k : D κ} {J : Ups κ → D κ → Prop} (h : mentW X ob t m k J) : mentW X ob t m k (fun us d => J us d ∧ UpsOk o ob us) := by
  unfold mentW at h ⊢
  split at h
  · split at h
    · split at h
      · rename_i hob
        exact condW_mono1 h (keyW_mono fun v h => h.imp (fun ⟨i, p, h1, h2, h3⟩ => ⟨i, p, h1, h2, h3, updS hob⟩) (fun ⟨h1, h2⟩ => ⟨h1, h2, updS hob⟩))
      · exact h.elim
    · exact h.elim
  · exact h.elim
theorem esto_upd {o : Oper} {ob : Obs κ} {t : TypeId} {m s d : D κ} {J : Ups κ → Prop} (h : estoW X ob t m s d J) : estoW X ob t m s d (fun us => J us ∧ UpsOk o ob us) := by
  unfold estoW at h ⊢
  split at h
  · split at h
    · rename_i hob
      exact condW_mono1 h (fun ⟨i, p, h1, h2, h3⟩ => ⟨i, p, h1, h2, h3, updS hob⟩)
    · exact h.elim
  · exact h.elim
theorem opE_upd {o : Oper} {ev : Operand → D κ} {ob : Obs κ} {J : Ups κ → D κ → Prop} (h : opE X o ev ob J) : opE X o ev ob (fun us d => J us d ∧ UpsOk o ob us) := by
  unfold opE at h ⊢
  split at h
  · simp only [fD_eq] at h ⊢; exact ⟨h, upd0⟩
  · simp only [fD_eq] at h ⊢; exact ⟨h, upd0⟩
  · split at h
    · rename_i hd
      split at h
      · exact condW_mono1 h (fun h => by simp only [fL_eq] at h ⊢; exact ⟨h, updD hd⟩)
      · exact h.elim
    · exact h.elim
  · split at h
    · rename_i hd
      split at h
      · simp only [fD_eq] at h ⊢
        exact condW_mono1 h (fun h => by simp only [fL_eq] at h ⊢; exact ⟨h, updD hd⟩)
      · exact h.elim
    · exact h.elim
  · split at h
    · split at h
      · exact condW_mono1 h (partW_mono (fun d h => ⟨h, upd0⟩))
      · exact h.elim
    · split at h
      · exact condW_mono1 h (fun h => ⟨h.1, partW_mono (fun d h => ⟨h, upd0⟩) h.2⟩)
      · exact h.elim
    · exact pureW_mono (fun d h => ⟨h, upd0⟩) h
  · split at h
    · split at h
      · rename_i hob
        simp only [fD_eq] at h ⊢
        exact condW_mono1 h (fun h => by simp only [fL_eq] at h ⊢; exact ⟨h, updS hob⟩)
      · exact h.elim
    · split at h
      · rename_i hob
        simp only [fD_eq] at h ⊢
        exact condW_mono1 h (fun h => ⟨h.1, h.2, updS hob⟩)
      · exact h.elim
    · exact h.elim
  · split at h
    · exact fillW_mono (fun cs h => ⟨h, upd0⟩) _ _ h
    · exact condW_mono1 h (fillW_mono (fun cs h => ⟨h, upd0⟩) _ _)
    · exact h.elim
  · split at h
    · rename_i hd
      split at h
      · exact condW_mono1 h (fillW_mono (fun cs h => condW_mono1 h (fun h => ⟨h, updD hd⟩)) _ _)
      · exact h.elim
    · exact h.elim
  · split at h
    · rename_i hd _ _
      split at h
      · exact condW_mono1 h (fun h => by simp only [fN_eq] at h ⊢; exact ⟨h.1, h.2, updD hd⟩)
      · exact h.elim
    · exact h.elim
  · split at h
    · split at h
      · simp only [fL_eq] at h ⊢
        rcases h with (h | h) | ⟨H, H', d, h1, h2, h3, h4⟩
        · exact .inl (.inl (frzAW_mono (fun us ds ⟨⟨d, h1, h2⟩, hu⟩ => ⟨d, h1, by simp only [fD_eq] at h2 ⊢; exact condW_mono1 h2 (fun h => ⟨h, hu⟩)⟩) (frzA_upd (o := o) _ h)))
        · exact .inl (.inr ⟨perm_upd h.h⟩)
        · exact .inr ⟨H, H', d, h1, h2, h3, by simp only [fD_eq] at h4 ⊢; exact ⟨h4, updL h2 h3⟩⟩
      · simp only [fL_eq] at h ⊢
        rcases h with h | h
        · exact .inl (frzAW_mono (fun us ds ⟨⟨d, h1, h2⟩, hu⟩ => ⟨d, h1, by simp only [fD_eq] at h2 ⊢; exact condW_mono1 h2 (fun h => ⟨h, hu⟩)⟩) (frzA_upd (o := o) _ h))
        · exact h.elim
      · exact h.elim
    · split at h
      · rename_i hd
        exact condW_mono1 h (fun h => by simp only [fD_eq] at h ⊢; exact app_upd hd h)
      · exact h.elim
    · exact pureW_mono (fun d h => ⟨h, upd0⟩) h
  · split at h
    · exact condW_mono1 h (srcW_mono fun m f ⟨g, h1, h2⟩ => ⟨g, h1, h2, upd0⟩)
    · exact pureW_mono (fun d h => ⟨h, upd0⟩) h
  · split at h
    · exact h.elim
    · exact h.elim
    · rcases h with h | h
      · refine .inl (frzAW_mono (fun us ds h => ?_) (frzA_upd (o := o) _ h))
        obtain ⟨h, hu⟩ := h
        split at h
        · exact condW_mono1 h (fun h => ⟨h, hu⟩)
        · exact h.elim
      · obtain ⟨l, s, n, he, h⟩ := ifoW_spec h
        exact .inr (by rw [he]; exact ⟨h, upd0⟩)
    · refine frzAW_mono (fun us ds h => ?_) (frzA_upd (o := o) _ h)
      obtain ⟨h, hu⟩ := h
      split at h
      · exact condW_mono1 h (fun h => ⟨h, hu⟩)
      · exact h.elim
  · split at h
    · exact frzAW_mono (fun us ds ⟨h, hu⟩ => condW_mono1 h (fun h => ⟨h, hu⟩)) (frzA_upd (o := o) _ h)
    · exact pureW_mono (fun d h => ⟨h, upd0⟩) h
  · split at h
    · rename_i hd _
      split at h
      · exact condW_mono1 h (fun h => h.imp (fun h => ⟨h, updD (by assumption)⟩) fun h => ⟨⟨h.h, updD (by assumption)⟩⟩)
      · exact h.elim
    · exact h.elim
  · simp only [fD_eq] at h ⊢; exact ins_upd h
  · simp only [fD_eq] at h ⊢; exact ins_upd h
  · exact lookW_mono (fun d h => ⟨h, upd0⟩) h
  · exact ment_upd h
  · simp only [fD_eq] at h ⊢; exact esto_upd h
  · exact pureW_mono (fun d h => ⟨h, upd0⟩) h
theorem opW_fr {o : Oper} {σ : St κ} {K : St κ → Prop} (h : opW X o σ K) : opW X o σ (fun σ' => K σ' ∧ Fr (opDst o) σ σ') := opE_mono (fun us d h => ⟨h.1, fr_put o σ us d h.2⟩) (opE_upd h)
end
end Go.Proofs.YteojgenhgjhohaaDoor
