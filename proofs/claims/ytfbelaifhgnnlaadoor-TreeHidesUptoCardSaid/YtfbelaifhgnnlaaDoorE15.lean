/-
  Regions whose order is open, over any program: operations that may change places do, and every order comes to the text's end.
-/
import Derived.Test.YtfbelaifhgnnlaaDoorE14
namespace Go.Proofs.YtfbelaifhgnnlaaDoor
open Go.RowKit
set_option linter.unusedVariables false
set_option linter.unusedSimpArgs false

section
variable {κ : Type} {X : Cx κ} {M0 M : Nat → Nat → Prop} {w0 w : World} {N : Nat} {β : Nat → Nat} {γ : Nat → Option Grp} {σ : St κ} {a : Act}

/-- Whether an operation is wanted. -/
def wantE (all : List Oper) (o : Oper) (σ : St κ) : Option Bool :=
  match o.guard with
  | none => some true
  | some (j, want) => match (all[j]?).bind (·.dst) with
    | some t => match σ.fr t with
      | .v (.bool b) => some (b == want)
      | .und => some false
      | _ => none
    | none => none

def PutG (X : Cx κ) (all : List Oper) (o : Oper) (σ : St κ) (d : D κ) (t : Option Tg) : Prop := (wantE all o σ = some true ∧ PutS X o σ d t) ∨ (wantE all o σ = some false ∧ d = .und ∧ t = none)
def SerG (X : Cx κ) (all : List Oper) (o : Oper) (σ σ' : St κ) (q : Option Tg → Option Tg) : Prop := wantE all o σ = some true ∧ SerS X o σ σ' q
/-- The own variable that an operation reads or writes, if it is wanted. -/
def labG (all : List Oper) (o : Oper) (σ : St κ) : Option Nat := match wantE all o σ with | some true => labW o σ | _ => none
def StepG (X : Cx κ) (all : List Oper) (o : Oper) (b : Option Nat) (σ σ' : St κ) : Prop := labG all o σ = b ∧ ((∃ d t, PutG X all o σ d t ∧ σ' = σ.put o.dst d t) ∨ (∃ q, SerG X all o σ σ' q) ∨ (wantE all o σ = some true ∧ ∃ l, StoS X o σ σ' l))

/-- Two operations that do not touch each other's slots. -/
structure Apt (all : List Oper) (x y : Oper) : Prop where
  xy : ∀ k, x.dst = some k → seesB all y k = false
  yx : ∀ k, y.dst = some k → seesB all x k = false
  d : ∀ k, x.dst = some k → y.dst ≠ some k

theorem wantE_congr {all : List Oper} {o : Oper} {σ σ' : St κ} (h : ∀ k, seesB all o k = true → σ'.fr k = σ.fr k) : wantE all o σ' = wantE all o σ := by
  unfold wantE
  cases hg : o.guard with
  | none => rfl
  | some p =>
    obtain ⟨j, want⟩ := p
    simp only
    cases ht : (all[j]?).bind (·.dst) with
    | none => rfl
    | some t =>
      simp only
      rw [h t]
      unfold seesB
      rw [hg]
      simp only [ht, beq_yes, Bool.or_true]

theorem fr_put_ne {σ : St κ} {i : Option Nat} {d : D κ} {t : Option Tg} {k : Nat} (h : i ≠ some k) : (σ.put i d t).fr k = σ.fr k := by
  cases i with
  | none => rfl
  | some i => simp only [St.put, beq_no (fun e => h (by rw [e]) : ¬ k = i), cond_false]
theorem SerS.fr_ne {o : Oper} {σ σ1 : St κ} {q : Option Tg → Option Tg} (hs : SerS X o σ σ1 q) {k : Nat} (h : o.dst ≠ some k) : σ1.fr k = σ.fr k := by
  cases hs with
  | alloc ho hl hb hk => simp only [St.box, beq_no (fun e => h (by rw [hl, e]) : ¬ k = _), cond_false]
  | box ho hl hb hg => simp only [St.box, beq_no (fun e => h (by rw [hl, e]) : ¬ k = _), cond_false]
  | app ho hk h' hs => simp only [St.app, beq_no (fun e => h (by rw [hk, e]) : ¬ k = _), cond_false]

theorem apt_sees {all : List Oper} {o : Oper} {dst : Option Nat} (h : ∀ k, dst = some k → seesB all o k = false) : ∀ k, seesB all o k = true → dst ≠ some k := fun k hk e => by rw [h k e] at hk; cases hk
theorem apt_ops {all : List Oper} {o : Oper} {dst : Option Nat} (h : ∀ k, dst = some k → seesB all o k = false) : ∀ k, dst = some k → ∀ x ∈ o.op.operands, x ≠ .tmp k := fun k hk => sees_ops (h k hk)

theorem labG_eq {all : List Oper} {o : Oper} {σ σ1 : St κ} {q : Option Tg → Option Tg} {ex : Option Nat} (hl : Like o σ σ1 q ex) (hw : wantE all o σ1 = wantE all o σ) : labG all o σ1 = labG all o σ := by
  unfold labG
  rw [hw, hl.lab]
theorem PutG.fwd {all : List Oper} {o : Oper} {σ σ1 : St κ} {q : Option Tg → Option Tg} {ex : Option Nat} {d : D κ} {t : Option Tg} (hl : Like o σ σ1 q ex) (hne : ∀ l, labG all o σ = some l → ex ≠ some l) (hw : wantE all o σ1 = wantE all o σ) (h : PutG X all o σ d t) : PutG X all o σ1 d (q t) := by
  rcases h with ⟨h1, h2⟩ | ⟨h1, rfl, rfl⟩
  · exact .inl ⟨hw.trans h1, h2.fwd hl (fun l h => hne l (by simp only [labG, h1]; exact h))⟩
  · exact .inr ⟨hw.trans h1, rfl, hl.qn⟩
theorem PutG.bwd {all : List Oper} {o : Oper} {σ σ1 : St κ} {q : Option Tg → Option Tg} {ex : Option Nat} {d : D κ} {t1 : Option Tg} (hl : Like o σ σ1 q ex) (hne : ∀ l, labG all o σ1 = some l → ex ≠ some l) (hw : wantE all o σ1 = wantE all o σ) (h : PutG X all o σ1 d t1) : ∃ t, PutG X all o σ d t ∧ q t = t1 := by
  rcases h with ⟨h1, h2⟩ | ⟨h1, rfl, rfl⟩
  · obtain ⟨t, h3, h4⟩ := h2.bwd hl (fun l h => hne l (by simp only [labG, h1]; exact h))
    exact ⟨t, .inl ⟨hw.symm.trans h1, h3⟩, h4⟩
  · exact ⟨none, .inr ⟨hw.symm.trans h1, rfl, rfl⟩, hl.qn⟩

theorem SerS.isSer {o : Oper} {σ σ1 : St κ} {q : Option Tg → Option Tg} (hs : SerS X o σ σ1 q) : isSer o = true := by
  cases hs with
  | alloc ho _ _ _ => simp [Go.Proofs.YtfbelaifhgnnlaaDoor.isSer, ho]
  | box ho _ _ _ => simp [Go.Proofs.YtfbelaifhgnnlaaDoor.isSer, ho]
  | app ho _ _ _ => simp [Go.Proofs.YtfbelaifhgnnlaaDoor.isSer, ho]

theorem SerS.labW {o : Oper} {σ σ1 σ2 : St κ} {q : Option Tg → Option Tg} (hs : SerS X o σ σ1 q) : Go.Proofs.YtfbelaifhgnnlaaDoor.labW o σ2 = none := by
  cases hs with
  | alloc ho _ _ _ => simp [Go.Proofs.YtfbelaifhgnnlaaDoor.labW, ho]
  | box ho _ _ _ => simp [Go.Proofs.YtfbelaifhgnnlaaDoor.labW, ho]
  | app ho _ _ _ => simp [Go.Proofs.YtfbelaifhgnnlaaDoor.labW, ho]
theorem StoS.fr_eq {o : Oper} {σ σ1 : St κ} {l : Nat} (hs : StoS X o σ σ1 l) (k : Nat) : σ1.fr k = σ.fr k := by
  cases hs with
  | mk ho _ _ _ _ _ _ => rfl
theorem SerG.labG {all : List Oper} {o : Oper} {σ σ1 σ2 : St κ} {q : Option Tg → Option Tg} (hs : SerS X o σ σ1 q) : Go.Proofs.YtfbelaifhgnnlaaDoor.labG all o σ2 = none := by
  unfold Go.Proofs.YtfbelaifhgnnlaaDoor.labG
  split
  · exact SerS.labW hs
  · rfl
theorem lneB_ne {a b : Option Nat} {l : Nat} (h : lneB a b = true) (ha : a = some l) : b ≠ some l := by
  intro hb
  subst ha hb
  simp [lneB] at h
theorem lneB_comm {a b : Option Nat} (h : lneB a b = true) : lneB b a = true := by
  cases a <;> cases b <;> simp_all [lneB, beq_dec]
  omega
/-- What two operations must have for a change of places. -/
structure Apart (all : List Oper) (x y : Oper) (lx ly : Option Nat) : Prop where
  apt : Apt all x y
  ser : (isSer x && isSer y) = false
  sto : (match isSto x, isSto y with | false, false => true | true, true => false | true, false => !isSer y && lneB lx ly | false, true => !isSer x && lneB lx ly) = true
/-- Operations that are apart change places. -/
theorem swap {all : List Oper} {oj oi : Oper} {bj bi : Option Nat} {σ σ1 σ2 : St κ} (ha : Apart all oj oi bj bi) (h1 : StepG X all oj bj σ σ1) (h2 : StepG X all oi bi σ1 σ2) : ∃ σ', StepG X all oi bi σ σ' ∧ StepG X all oj bj σ' σ2 := by
  obtain ⟨hap, hser, hsto⟩ := ha
  obtain ⟨l1, h1⟩ := h1
  obtain ⟨l2, h2⟩ := h2
  rcases h1 with ⟨d, t, h1, rfl⟩ | ⟨q, h1w, h1⟩ | ⟨h1w, l, h1⟩
  · have hli : Like oi σ (σ.put oj.dst d t) id none := like_put (apt_ops hap.xy)
    have hwi : wantE all oi (σ.put oj.dst d t) = wantE all oi σ := wantE_congr fun k hk => fr_put_ne (apt_sees hap.xy k hk)
    have hlab := labG_eq hli hwi
    rcases h2 with ⟨d', t', h2, rfl⟩ | ⟨q, h2w, h2⟩ | ⟨h2w, l, h2⟩
    · obtain ⟨t2, h3, rfl⟩ := h2.bwd hli (fun _ _ h => by cases h) hwi
      have hlj : Like oj σ (σ.put oi.dst d' t2) id none := like_put (apt_ops hap.yx)
      have hwj : wantE all oj (σ.put oi.dst d' t2) = wantE all oj σ := wantE_congr fun k hk => fr_put_ne (apt_sees hap.yx k hk)
      refine ⟨σ.put oi.dst d' t2, ⟨hlab.symm.trans l2, .inl ⟨d', t2, h3, rfl⟩⟩, (labG_eq hlj hwj).trans l1, .inl ⟨d, t, ?_, (put_put hap.d).symm ▸ rfl⟩⟩
      exact h1.fwd (q := id) hlj (fun _ _ h => by cases h) hwj
    · obtain ⟨σ', h3, rfl⟩ := h2.unput (apt_ops hap.xy) (fun k hk => hap.d k hk)
      have hlj : Like oj σ σ' q none := h3.like (apt_ops hap.yx)
      have hwj : wantE all oj σ' = wantE all oj σ := wantE_congr fun k hk => h3.fr_ne (apt_sees hap.yx k hk)
      refine ⟨σ', ⟨hlab.symm.trans l2, .inr (.inl ⟨q, hwi.symm.trans h2w, h3⟩)⟩, (labG_eq hlj hwj).trans l1, .inl ⟨d, q t, ?_, rfl⟩⟩
      exact h1.fwd hlj (fun _ _ h => by cases h) hwj
    · obtain ⟨σ', h3, rfl⟩ := h2.unput (apt_ops hap.xy)
      have hlj : Like oj σ σ' id (some l) := h3.like
      have hwj : wantE all oj σ' = wantE all oj σ := wantE_congr fun k hk => h3.fr_eq k
      have hb : bi = some l := by
        rw [← l2]
        simp only [labG, h2w]
        exact h2.lab
      rw [h3.isSto] at hsto
      have hle : lneB bj bi = true := by
        cases hj : isSto oj <;> rw [hj] at hsto <;> simp at hsto
        exact hsto.2
      refine ⟨σ', ⟨hlab.symm.trans l2, .inr (.inr ⟨hwi.symm.trans h2w, l, h3⟩)⟩, (labG_eq hlj hwj).trans l1, .inl ⟨d, t, ?_, rfl⟩⟩
      exact h1.fwd (q := id) hlj (fun k hk e => lneB_ne hle (l1.symm.trans hk) (by rw [hb]; exact e)) hwj
  · rcases h2 with ⟨d', t', h2, rfl⟩ | ⟨q', h2w, h2⟩ | ⟨h2w, l, h2⟩
    · have hli : Like oi σ σ1 q none := h1.like (apt_ops hap.xy)
      have hwi : wantE all oi σ1 = wantE all oi σ := wantE_congr fun k hk => h1.fr_ne (apt_sees hap.xy k hk)
      obtain ⟨t2, h3, rfl⟩ := h2.bwd hli (fun _ _ h => by cases h) hwi
      have h4 := h1.put (d := d') (t := t2) (apt_ops hap.yx) (fun k hk e => hap.d k e hk)
      refine ⟨σ.put oi.dst d' t2, ⟨(labG_eq hli hwi).symm.trans l2, .inl ⟨d', t2, h3, rfl⟩⟩, ?_, .inr (.inl ⟨q, ?_, h4⟩)⟩
      · rw [SerG.labG h1, ← l1, SerG.labG h1]
      · exact (wantE_congr fun k hk => fr_put_ne (apt_sees hap.yx k hk)).trans h1w
    · rw [h1.isSer, h2.isSer] at hser
      cases hser
    · rw [h2.isSto] at hsto
      cases hj : isSto oj <;> rw [hj] at hsto <;> simp [h1.isSer] at hsto
  · rcases h2 with ⟨d', t', h2, rfl⟩ | ⟨q', h2w, h2⟩ | ⟨h2w, l', h2⟩
    · have hli : Like oi σ σ1 id (some l) := h1.like
      have hwi : wantE all oi σ1 = wantE all oi σ := wantE_congr fun k hk => h1.fr_eq k
      have hb : bj = some l := by
        rw [← l1]
        simp only [labG, h1w]
        exact h1.lab
      rw [h1.isSto] at hsto
      have hle : lneB bj bi = true := by
        cases hj : isSto oi <;> rw [hj] at hsto <;> simp at hsto
        exact hsto.2
      obtain ⟨t2, h3, rfl⟩ := h2.bwd hli (fun k hk e => lneB_ne hle (hb.trans e) (l2.symm.trans hk)) hwi
      have hlj : Like oj σ (σ.put oi.dst d' t2) id none := like_put (apt_ops hap.yx)
      have hwj : wantE all oj (σ.put oi.dst d' t2) = wantE all oj σ := wantE_congr fun k hk => fr_put_ne (apt_sees hap.yx k hk)
      exact ⟨σ.put oi.dst d' t2, ⟨(labG_eq hli hwi).symm.trans l2, .inl ⟨d', t2, h3, rfl⟩⟩, (labG_eq hlj hwj).trans l1, .inr (.inr ⟨hwj.trans h1w, l, h1.put (apt_ops hap.yx)⟩)⟩
    · rw [h1.isSto] at hsto
      cases hj : isSto oi <;> rw [hj] at hsto <;> simp [h2.isSer] at hsto
    · rw [h1.isSto, h2.isSto] at hsto
      cases hsto

/-- The operations of a list, one behind the other. -/
inductive Runs (X : Cx κ) (all : List Oper) : List (Oper × Option Nat) → St κ → St κ → Prop
  | nil {σ : St κ} : Runs X all [] σ σ
  | cons {o : Oper} {b : Option Nat} {l : List (Oper × Option Nat)} {σ σ1 σ2 : St κ} (h : StepG X all o b σ σ1) (hr : Runs X all l σ1 σ2) : Runs X all ((o, b) :: l) σ σ2

theorem Runs.front {all : List Oper} {o : Oper} {b : Option Nat} {post : List (Oper × Option Nat)} : ∀ {pre : List (Oper × Option Nat)} {σ σ2 : St κ}, (∀ x ∈ pre, Apart all x.1 o x.2 b) → Runs X all (pre ++ (o, b) :: post) σ σ2 → ∃ σ1, StepG X all o b σ σ1 ∧ Runs X all (pre ++ post) σ1 σ2
  | [], σ, σ2, _, h => by
    cases h with
    | cons h hr => exact ⟨_, h, hr⟩
  | x :: pre, σ, σ2, hx, h => by
    cases h with
    | cons h hr =>
      obtain ⟨σ1, h1, h2⟩ := Runs.front (fun y hy => hx y (List.mem_cons_of_mem _ hy)) hr
      obtain ⟨σ', h3, h4⟩ := swap (hx _ List.mem_cons_self) h h1
      exact ⟨σ', h3, .cons h4 h2⟩

/-! ## A step out of what the text's order says -/

theorem arith_pick {k : IntKind} {n : Int} {K : D κ → Prop} (h : arithW k n K) : ∃ d, arithW k n (· = d) ∧ K d := by
  cases k
  case i64 => exact ⟨_, ⟨h.1, rfl⟩, h.2⟩
  all_goals exact ⟨_, rfl, h⟩
theorem int_pick {op : BinOp} {k : IntKind} {a b : Int} {K : D κ → Prop} (h : intW op k a b K) : ∃ d, intW op k a b (· = d) ∧ K d := by
  cases op <;> simp only [intW] at h ⊢
  case quo =>
    rcases h with ⟨x, y, z⟩ | ⟨x, y⟩
    · obtain ⟨d, h1, h2⟩ := arith_pick z; exact ⟨d, .inl ⟨x, y, h1⟩, h2⟩
    · obtain ⟨d, h1, h2⟩ := arith_pick y; exact ⟨d, .inr ⟨x, h1⟩, h2⟩
  case rem =>
    rcases h with ⟨x, y, z⟩ | ⟨x, y⟩
    · exact ⟨_, .inl ⟨x, y, rfl⟩, z⟩
    · exact ⟨_, .inr ⟨x, rfl⟩, y⟩
  all_goals first
    | exact arith_pick h
    | exact ⟨_, rfl, h⟩
    | exact h.elim
theorem cond_pick {b : Bool} {A : (D κ → Prop) → Prop} {K : D κ → Prop} (h : condW b (A K) False) (hp : A K → ∃ d, A (· = d) ∧ K d) : ∃ d, condW b (A (· = d)) False ∧ K d := by
  cases b
  · exact h.elim
  · exact hp h
theorem part_pick {i : TyI} {off : Nat} {cs : List (D κ)} {K : D κ → Prop} (h : partW i off cs K) : ∃ d, partW i off cs (· = d) ∧ K d := by
  refine cond_pick (A := fun K => match i.isAgg with | true => fL ((cs.drop off).take i.size) fun cs => K (.agg cs) | false => fD (cs.getD off .opq) K) h (fun h => ?_)
  split at h
  · simp only [fL_eq] at h ⊢; exact ⟨_, rfl, h⟩
  · simp only [fD_eq] at h ⊢; exact ⟨_, rfl, h⟩
theorem bounds_pick {lo hi : Option (D κ)} {n : Nat} {F : Nat → Nat → D κ} {K : D κ → Prop} (h : boundsW lo hi n fun a b => K (F a b)) : ∃ d, boundsW lo hi n (fun a b => F a b = d) ∧ K d := by
  unfold boundsW at h ⊢
  split at h
  · exact ⟨_, ⟨h.1, rfl⟩, h.2⟩
  · exact h.elim

theorem pure_pick {op : Op} {ev : Operand → D κ} {ρ : Operand → Value} (hev : ∀ x, Rep X.V M w (ev x) (ρ x)) {K : D κ → Prop} (h : pureW X op ev K) : ∃ d, pureW X op ev (· = d) ∧ K d := by
  unfold pureW at h ⊢
  split at h
  · split at h
    · rename_i t _
      simp only [fD_eq] at h ⊢
      cases t
      · exact ⟨_, rfl, h⟩
      · exact ⟨_, rfl, h⟩
    · exact h.elim
  · unfold binW at h ⊢
    split at h
    · split at h
      · unfold shiftW at h ⊢
        split at h
        · exact ⟨_, ⟨h.1, rfl⟩, h.2⟩
        · exact ⟨_, ⟨h.1, rfl⟩, h.2⟩
        · exact h.elim
      · exact cond_pick (A := fun K => intW _ _ _ _ K) h int_pick
    · split at h
      · exact ⟨_, ⟨h.1, rfl⟩, h.2⟩
      all_goals first
        | exact ⟨_, rfl, h⟩
        | exact h.elim
    · split at h
      · exact cond_pick (A := fun K => K _) h (fun h => ⟨_, rfl, h⟩)
      · exact cond_pick (A := fun K => K _) h (fun h => ⟨_, rfl, h⟩)
      · exact h.elim
    · exact h.elim
  · split at h
    · exact ⟨_, rfl, h⟩
    · exact h.elim
  · split at h
    · exact arith_pick h
    · exact h.elim
  · split at h
    · simp only [fD_eq] at h ⊢
      exact cond_pick (A := fun K => K _) h (fun h => ⟨_, rfl, h⟩)
    · exact h.elim
  · rename_i c
    split at h
    · rename_i b
      unfold builtinW at h ⊢
      split at h
      · rename_i t x e1 e2
        obtain ⟨y, hy, rfl⟩ : ∃ y, y ∈ c.args.toList ∧ ev y = x := by
          have : x ∈ c.args.toList.map ev := by rw [e2]; simp
          obtain ⟨y, hy, hyx⟩ := List.mem_map.1 this
          exact ⟨y, hy, hyx⟩
        unfold lenW at h ⊢
        have hr := hev y
        split at h
        · rename_i s q1 q2
          rw [q2] at hr
          obtain ⟨_, ho⟩ := hr.val
          exact ⟨_, fun _ => rfl, h (of_decide_eq_true ho)⟩
        · split at h
          · rename_i sz b n f q
            obtain ⟨A, c', hv, h1, h2, h3, _⟩ := (hr.asSl q).slice
            exact ⟨_, fun _ => rfl, h ⟨h3, by unfold maxLen at h2; omega⟩⟩
          · exact h.elim
        · exact h.elim
      · unfold mmW at h ⊢
        split at h
        · exact ⟨_, rfl, h⟩
        · exact h.elim
      · unfold mmW at h ⊢
        split at h
        · exact ⟨_, rfl, h⟩
        · exact h.elim
      · exact h.elim
    · exact h.elim
  · split at h
    · exact ⟨_, ⟨h.1, rfl⟩, h.2⟩
    · exact h.elim
  · split at h
    · split at h
      · exact cond_pick (A := fun K => _ ∧ K _) h (fun h => ⟨_, ⟨h.1, rfl⟩, h.2⟩)
      · exact h.elim
    · exact h.elim
  · split at h
    · split at h
      · simp only [fN_eq] at h ⊢; exact ⟨_, rfl, h⟩
      · exact h.elim
    · exact h.elim
  · split at h
    · split at h
      · exact h.elim
      · exact part_pick h
    · exact h.elim
  · split at h
    · split at h
      · split at h
        · exact h.elim
        · exact part_pick h
      · exact h.elim
    · exact h.elim
  · unfold convW at h ⊢
    split at h
    · exact ⟨_, ⟨h.1, rfl⟩, h.2⟩
    · exact ⟨_, rfl, h⟩
    · exact ⟨_, rfl, h⟩
    · exact ⟨_, rfl, h⟩
    · exact h.elim
  · unfold sliceW at h ⊢
    split at h
    · exact bounds_pick h
    · split at h
      · rename_i sz by_ n f _
        exact cond_pick (A := fun K => boundsW _ _ n fun a b => K (.sl sz by_ (b - a) (fun i => f (i + a)))) h bounds_pick
      · exact h.elim
    · exact h.elim
  · split at h
    · exact ⟨_, rfl, h⟩
    · exact h.elim
  · split at h
    · simp only [fL_eq] at h ⊢; exact ⟨_, rfl, h⟩
    · exact h.elim
  · exact h.elim

theorem fill_pick {pl : Nat → Option (Nat × Nat)} {J : List (D κ) → Prop} : ∀ (parts : List (Nat × D κ)) (cs : List (D κ)), fillW pl parts cs J → ∃ r, fillW pl parts cs (· = r) ∧ J r
  | [], cs, h => by simp only [fillW, fL_eq] at h ⊢; exact ⟨_, rfl, h⟩
  | p :: r, cs, h => by
    simp only [fillW, fD_eq] at h ⊢
    split at h
    · obtain ⟨hc, h⟩ := condW_no h
      obtain ⟨q, h1, h2⟩ := fill_pick r _ h
      exact ⟨q, by rw [hc]; exact h1, h2⟩
    · exact h.elim
theorem app_pick {t : TypeId} {ds : D κ} {ts : Option Tg} {dx : D κ} {k : Nat} {J : Nat → Nat → D κ → Prop} (h : appW X t ds ts dx k J) : ∃ g e d, appW X t ds ts dx k (fun g' e' d' => g' = g ∧ e' = e ∧ d' = d) ∧ J g e d ∧ (ds = .v (.slice none 0 0) ∨ ∃ e', ts = some (.own g e')) := by
  unfold appW at h ⊢
  split at h
  · split at h
    · split at h
      · obtain ⟨hc, h1, h2⟩ := condW_no h
        exact ⟨_, _, _, by rw [hc]; exact ⟨h1, rfl, rfl, rfl⟩, h2, .inl rfl⟩
      · exact h.elim
    · split at h
      · obtain ⟨hc, h⟩ := condW_no h
        unfold appTo at h ⊢
        split at h
        · obtain ⟨hc2, h1, h2⟩ := condW_no h
          refine ⟨_, _, _, ?_, h2, .inr ⟨_, rfl⟩⟩
          rw [hc]
          show condW _ _ False
          rw [hc2]
          exact ⟨h1, rfl, rfl, rfl⟩
        · exact h.elim
      · exact h.elim
    · exact h.elim
  · exact h.elim

theorem step_pick (h : Sim X M0 w0 N M β γ σ a w) {o : Oper} {K : St κ → Prop} (hW : opWd X o σ K) : ∃ σ', ((∃ d t, PutS X o σ d t ∧ σ' = σ.put o.dst d t) ∨ (∃ q, SerS X o σ σ' q) ∨ (∃ l, StoS X o σ σ' l)) ∧ K σ' := by
  have hp : pureW X o.op σ.ev (fun d => K (σ.put o.dst d none)) → ∃ σ', ((∃ d t, PutS X o σ d t ∧ σ' = σ.put o.dst d t) ∨ (∃ q, SerS X o σ σ' q) ∨ (∃ l, StoS X o σ σ' l)) ∧ K σ' := fun hW => by
    obtain ⟨d, h1, h2⟩ := pure_pick h.ev hW
    exact ⟨_, .inl ⟨d, none, .pure h1, rfl⟩, h2⟩
  unfold opWd at hW
  split at hW
  · rename_i t n parts ho
    split at hW
    · rename_i e l hk hl
      obtain ⟨hc, hW⟩ := condW_no hW
      simp only [Bool.and_eq_true] at hc
      obtain ⟨⟨h1, h2⟩, h3⟩ := hc
      obtain ⟨cs, h4, h5⟩ := fill_pick _ _ hW
      exact ⟨_, .inl ⟨_, none, .row ho hl hk h1 (Nat.le_of_ble_eq_true h2) (Nat.le_of_ble_eq_true h3) h4, rfl⟩, h5⟩
    · exact hW.elim
  · rename_i hnb
    have hW0 := hW
    unfold opW at hW
    split at hW
    · rename_i x ho
      simp only [fD_eq, fT_eq] at hW
      exact ⟨_, .inl ⟨_, _, .move (.inl ho), rfl⟩, hW⟩
    · rename_i x ho
      simp only [fD_eq, fT_eq] at hW
      exact ⟨_, .inl ⟨_, _, .move (.inr ho), rfl⟩, hW⟩
    · rename_i e ho
      split at hW
      · rename_i l hl
        split at hW
        · rename_i hb
          obtain ⟨hk, hW⟩ := condW_no hW
          simp only [fL_eq] at hW
          exact ⟨_, .inr (.inl ⟨_, .alloc ho hl hb hk⟩), hW⟩
        · exact hW.elim
      · exact hW.elim
    · rename_i e x ho
      split at hW
      · rename_i l hl
        split at hW
        · rename_i hb
          simp only [fD_eq] at hW
          obtain ⟨hg, hW⟩ := condW_no hW
          simp only [fL_eq, fT_eq] at hW
          exact ⟨_, .inr (.inl ⟨_, .box ho hl hb hg⟩), hW⟩
        · exact hW.elim
      · exact hW.elim
    · rename_i t x i ho
      split at hW
      · rename_i l off ht
        split at hW
        · rename_i cs fs hb hk
          split at hW
          · rename_i p hp'
            simp only [fN_eq] at hW
            exact ⟨_, .inl ⟨_, _, .fad ho ht hb hk hp', rfl⟩, hW⟩
          · exact hW.elim
        · exact hW.elim
      · exact hp hW
    · rename_i t x ho
      split at hW
      · rename_i l off ht
        split at hW
        · rename_i cs hb
          obtain ⟨hk, hW⟩ := condW_no hW
          obtain ⟨d, h1, h2⟩ := part_pick hW
          simp only [fT_eq] at h2
          exact ⟨_, .inl ⟨_, _, .load ho ht hb hk h1, rfl⟩, h2⟩
        · exact hW.elim
      · exact hp hW
    · rename_i t x y ho
      split at hW
      · rename_i l off ht
        split at hW
        · rename_i cs hb
          simp only [fD_eq] at hW
          obtain ⟨hc, hW⟩ := condW_no hW
          simp only [fL_eq, fT_eq, fN_eq] at hW
          simp only [Bool.and_eq_true] at hc
          obtain ⟨⟨⟨h1, h2⟩, h3⟩, h4⟩ := hc
          exact ⟨_, .inr (.inr ⟨l, .mk ho ht hb h1 (Nat.eq_of_beq_eq_true h2) h3 (Nat.le_of_ble_eq_true h4)⟩), hW⟩
        · exact hW.elim
      · exact hW.elim
    · rename_i x ho
      split at hW
      · rename_i l off ht
        split at hW
        · rename_i cs hb
          exact ⟨_, .inl ⟨_, _, .nck ho ht hb, rfl⟩, hW⟩
        · exact hW.elim
      · exact hp hW
    · rename_i t parts ho
      split at hW
      · rename_i fs hk
        obtain ⟨cs, h4, h5⟩ := fill_pick _ _ hW
        exact ⟨_, .inl ⟨_, _, .build ho hk h4, rfl⟩, h5⟩
      · exact hW.elim
    · rename_i t n parts ho
      exact absurd ho (hnb t n parts)
    · rename_i c ho
      split at hW
      · rename_i x hc
        split at hW
        · rename_i f cs hx
          simp only [fL_eq, fD_eq] at hW
          obtain ⟨d, h1, h2⟩ := hW
          exact ⟨_, .inl ⟨_, _, .call ho hc hx h1, rfl⟩, h2⟩
        · exact hW.elim
      · rename_i hc
        split at hW
        · rename_i s x t t' k e1 e2 e3
          obtain ⟨ht, hW2⟩ := condW_no hW
          have ht := Nat.eq_of_beq_eq_true ht
          subst ht
          simp only [fD_eq] at hW2
          obtain ⟨g, e, d, h1, h2, h3⟩ := app_pick hW2
          refine ⟨_, .inr (.inl ⟨_, .app (s := s) (x := x) (t := t) ?_ e3 h1 ?_⟩), h2⟩
          · rw [ho]
            obtain ⟨callee, args, ts⟩ := c
            simp only at hc e1 e2
            subst hc
            have e1' : args = #[s, x] := by cases args; simp_all
            have e2' : ts = #[t, t] := by cases ts; simp_all
            rw [e1', e2']
          · exact h3.imp id (fun ⟨e', he⟩ => ⟨e', he⟩)
        · exact hW.elim
      · exact hp (ho ▸ hW)
    · exact hp hW

theorem row_wp (h : Sim X M0 w0 N M β γ σ a w) {o : Oper} {Q : Exit → Act → World → Prop} {K : St κ → Prop} {t e : TypeId} {n l : Nat} {parts : Array (Nat × Operand)} {cs : List (D κ)} (ho : o.op = .buildSlice t n parts) (hl : o.dst = some l) (hlN : l < N) (hk : (X.T t).k = .sl e) (hkn : (X.T e).known = true)
    (hc : n * (X.T e).size ≤ 16777216) (hb : n * (X.T e).bytes ≤ 140737488355328)
    (hf : fillW (fun i => some (i * (X.T e).size, (X.T e).size)) (parts.toList.map fun p => (p.1, σ.ev p.2)) ((List.replicate n ((X.T e).zero.cells.toList.map .v)).flatten) (· = cs))
    (hK : K (σ.put o.dst (.sl (X.T e).size (X.T e).bytes n (fun i j => cs.getD (i * (X.T e).size + j) .opq)) none)) : o.wp X.P a w (Post X M0 w0 N K) Q := by
  obtain ⟨arr', cs', he, hsz, hn, hK', hrep⟩ := buildSlice_run h ho hk hkn hc hb hf
  subst hK'
  have hg := h.grow (w' := w.alloc (.cells arr' e)) (M' := fun b q => M b q ∨ (b = w.heap.size ∧ q < n * (X.T e).size)) ((Below.refl _ _).alloc (Nat.le_refl _) _) (fun b q hm => .inl hm) (fun b q hm => by
    rcases hm with hm | ⟨rfl, _⟩
    · exact .inl hm
    · exact .inr ⟨Nat.le_refl _, by simp⟩)
  exact wp_value he ⟨_, β, γ, _, hg.put0 (fun k hk' => by rw [hl] at hk'; injection hk' with hk'; omega) (hrep _ (fun b q hm => .inl hm) (fun q hq => .inr ⟨rfl, hq⟩)), hK⟩

/-- A step is carried out. -/
theorem step_sound (hG : X.G w0) (h : Sim X M0 w0 N M β γ σ a w) {o : Oper} {Q : Exit → Act → World → Prop} {σ' : St κ} (hd : ∀ k, o.dst = some k → k < N) (hst : ∀ t x y, o.op = .store t x y → o.dst = none) (hs : (∃ d t, PutS X o σ d t ∧ σ' = σ.put o.dst d t) ∨ (∃ q, SerS X o σ σ' q) ∨ (∃ l, StoS X o σ σ' l)) : o.wp X.P a w (Post X M0 w0 N (· = σ')) Q := by
  rcases hs with ⟨d, t, hs, rfl⟩ | ⟨q, hs⟩ | ⟨l, hs⟩
  · cases hs with
    | pure hp => exact pure_wp h hd (pureW_mono (fun e he => by rw [he]) hp)
    | move ho => exact move_wp h ho hd rfl
    | fad ho ht hb hk hp => exact fieldAddr_wp h ho ht hb hk hp hd rfl
    | nck ho ht hb => exact nilCheck_wp h ho ht hb hd rfl
    | load ho ht hb hk hp => exact load_wp h ho ht hb hk hd (partW_mono (fun e he => by subst he; rfl) hp)
    | build ho hk hf => exact build_wp h ho hk hd (fillW_mono (fun e he => by rw [he]) _ _ hf)
    | row ho hl hk hkn hc hb hf => exact row_wp h ho hl (hd _ hl) hk hkn hc hb hf rfl
    | call ho hc hx hsp => exact call_wp hG h ho hc hx hd hsp rfl
  · cases hs with
    | alloc ho hl hb hk => exact alloc_wp h ho hl (hd _ hl) hk rfl
    | box ho hl hb hg => exact box_wp h ho hl (hd _ hl) hg rfl
    | app ho hk ha hs' => exact append_wp h ho hk (hd _ hk) (appW_mono (fun g e d ⟨h1, h2, h3⟩ => by rw [h1, h2, h3]) ha)
  · cases hs with
    | mk ho ht hb hg hn hk hle => exact store_wp h ho (hst _ _ _ ho) ht hb hg hn hk hle rfl

theorem want_spec (h : Sim X M0 w0 N M β γ σ a w) {all : List Oper} {o : Oper} {b : Bool} (hw : wantE all o σ = some b) : Region.wanted o (yielded all.toArray a.tmps) = b := by
  unfold wantE at hw
  unfold Region.wanted
  split at hw
  · rename_i hg
    rw [hg]
    simpa using hw
  · rename_i j want hg
    rw [hg]
    simp only
    split at hw
    · rename_i t ht
      split at hw
      · rename_i c hc
        rw [yielded_bool h ht hc]
        cases hw
        rfl
      · rename_i hc
        rw [yielded_und h ht hc]
        cases hw
        rfl
      · cases hw
    · cases hw

theorem stepG_wp (hG : X.G w0) (h : Sim X M0 w0 N M β γ σ a w) {all : List Oper} {o : Oper} {Q : Exit → Act → World → Prop} {σ' : St κ} {i : Nat} {b : Option Nat} (hi : all[i]? = some o) (hok : opOk N o = true) (hs : StepG X all o b σ σ') {Kx : Act → World → Prop}
    (hK : ∀ M β γ a w, Sim X M0 w0 N M β γ σ' a w → Kx a w) : wpOp X.P all.toArray Q i Kx a w := by
  obtain ⟨hd, hst⟩ := opOk_dst hok
  unfold wpOp
  simp only [List.getElem?_toArray, hi]
  have run : wantE all o σ = some true → ((∃ d t, PutS X o σ d t ∧ σ' = σ.put o.dst d t) ∨ (∃ q, SerS X o σ σ' q) ∨ (∃ l, StoS X o σ σ' l)) →
      (if Region.wanted o (yielded all.toArray a.tmps) then o.wp X.P a w Kx Q ∨ (o.asks X.P a w ∧ LetsOut Q) else Kx (a.put o.dst undef) w) := fun hw hs => by
    rw [if_pos (want_spec h hw)]
    exact Or.inl (Oper.wp_mono (fun a' w' ⟨M', β', γ', σ2, h1, h2⟩ => hK M' β' γ' a' w' (h2 ▸ h1)) (step_sound (Q := Q) hG h hd hst hs))
  obtain ⟨_, hs⟩ := hs
  rcases hs with ⟨d, t, hp | ⟨hw, rfl, rfl⟩, rfl⟩ | ⟨q, hw, hs⟩ | ⟨hw, h1⟩
  · exact run hp.1 (.inl ⟨d, t, hp.2, rfl⟩)
  · rw [if_neg (by rw [want_spec h hw]; simp)]
    exact hK M β γ _ w (h.put0 hd .und)
  · exact run hw (.inr (.inl ⟨q, hs⟩))
  · exact run hw (.inr (.inr h1))
end
end Go.Proofs.YtfbelaifhgnnlaaDoor
