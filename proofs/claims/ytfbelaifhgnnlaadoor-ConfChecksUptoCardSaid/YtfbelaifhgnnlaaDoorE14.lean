/-
  Operations as steps between states, over any program: which may change places. For regions whose order is open.
-/
import Derived.Test.YtfbelaifhgnnlaaDoorE13
import Derived.Orders
namespace Go.Proofs.YtfbelaifhgnnlaaDoor
open Go.RowKit
set_option linter.unusedVariables false
set_option linter.unusedSimpArgs false

section
variable {κ : Type} {X : Cx κ}

/-- An operation that only puts a datum, with a tag, into its slot. -/
inductive PutS (X : Cx κ) (o : Oper) (σ : St κ) : D κ → Option Tg → Prop
  | pure {d : D κ} (h : pureW X o.op σ.ev (· = d)) : PutS X o σ d none
  | move {x : Operand} (ho : o.op = .move x ∨ o.op = .assign x) : PutS X o σ (σ.ev x) (σ.tag x)
  | fad {t : TypeId} {x : Operand} {i l off : Nat} {cs : List (D κ)} {fs : List (Nat × Nat)} {p : Nat × Nat} (ho : o.op = .fieldAddr t x i) (ht : σ.tag x = some (.ptr l off)) (hb : σ.bx l = some cs) (hk : (X.T t).k = .struct fs) (hp : fs[i]? = some p) : PutS X o σ .opq (some (.ptr l (off + p.2)))
  | nck {x : Operand} {l off : Nat} {cs : List (D κ)} (ho : o.op = .nilCheck x) (ht : σ.tag x = some (.ptr l off)) (hb : σ.bx l = some cs) : PutS X o σ .opq (some (.ptr l off))
  | load {t : TypeId} {x : Operand} {l off : Nat} {cs : List (D κ)} {d : D κ} (ho : o.op = .load t x) (ht : σ.tag x = some (.ptr l off)) (hb : σ.bx l = some cs) (hk : (X.T t).known = true) (hp : partW (X.T t) off cs (· = d)) :
      PutS X o σ d (match (X.T t).isAgg with | true => none | false => ownOnly (σ.tg (.c l off)))
  | build {t : TypeId} {parts : Array (Nat × Operand)} {fs : List (Nat × Nat)} {cs : List (D κ)} (ho : o.op = .build t parts) (hk : (X.T t).k = .struct fs) (h : fillW (sizeOf? X fs) (parts.toList.map fun p => (p.1, σ.ev p.2)) ((X.T t).zero.cells.toList.map .v) (· = cs)) : PutS X o σ (.agg cs) none
  | row {t e : TypeId} {n l : Nat} {parts : Array (Nat × Operand)} {cs : List (D κ)} (ho : o.op = .buildSlice t n parts) (hl : o.dst = some l) (hk : (X.T t).k = .sl e) (hkn : (X.T e).known = true) (hc : n * (X.T e).size ≤ 16777216) (hb : n * (X.T e).bytes ≤ 140737488355328)
      (h : fillW (fun i => some (i * (X.T e).size, (X.T e).size)) (parts.toList.map fun p => (p.1, σ.ev p.2)) ((List.replicate n ((X.T e).zero.cells.toList.map .v)).flatten) (· = cs)) :
      PutS X o σ (.sl (X.T e).size (X.T e).bytes n (fun i j => cs.getD (i * (X.T e).size + j) .opq)) none
  | call {c : Call} {f : FuncId} {d : D κ} {x : Operand} {cs : List (D κ)} (ho : o.op = .call c) (hc : c.callee = .value x) (hx : σ.ev x = .fn f cs) (h : Sp X f (c.args.toList.map σ.ev ++ cs) d) : PutS X o σ d none

/-- An operation that makes or writes a variable, or appends; what it takes from tags. -/
inductive SerS (X : Cx κ) (o : Oper) (σ : St κ) : St κ → (Option Tg → Option Tg) → Prop
  | alloc {e : TypeId} {l : Nat} (ho : o.op = .alloc e) (hl : o.dst = some l) (hb : σ.bx l = none) (hk : (X.T e).known = true) : SerS X o σ (σ.box l ((X.T e).zero.cells.toList.map .v) none) (killP l)
  | box {e : TypeId} {x : Operand} {l : Nat} (ho : o.op = .box e x) (hl : o.dst = some l) (hb : σ.bx l = none) (hg : (σ.ev x).good = true) : SerS X o σ (σ.box l (σ.ev x).cells (match (σ.ev x).cells with | [_] => ownOnly (σ.tag x) | _ => none)) (killP l)
  | app {s x : Operand} {t : TypeId} {k g e : Nat} {d : D κ} (ho : o.op = .call { callee := .builtin .append, args := #[s, x], argTypes := #[t, t] }) (hk : o.dst = some k) (h : appW X t (σ.ev s) (σ.tag s) (σ.ev x) k (fun g' e' d' => g' = g ∧ e' = e ∧ d' = d))
      (hs : σ.ev s = .v (.slice none 0 0) ∨ ∃ e', σ.tag s = some (.own g e')) : SerS X o σ (σ.app k g e d) (killO g)

theorem sees_ops {ops : List Oper} {o : Oper} {k : Nat} (h : seesB ops o k = false) : ∀ x ∈ o.op.operands, x ≠ .tmp k := by
  unfold seesB at h
  rw [Bool.or_eq_false_iff] at h
  intro x hx e
  have h1 := h.1
  rw [List.any_eq_false] at h1
  have := h1 x (by simpa using hx)
  rw [e] at this
  simp [beq_yes] at this

theorem put_ev {σ : St κ} {dst : Option Nat} {d : D κ} {t : Option Tg} {x : Operand} (h : ∀ k, dst = some k → x ≠ .tmp k) : (σ.put dst d t).ev x = σ.ev x ∧ (σ.put dst d t).tag x = σ.tag x := by
  cases dst with
  | none => exact ⟨rfl, rfl⟩
  | some k =>
    cases x with
    | tmp i =>
      have : i ≠ k := fun e => h k rfl (by rw [e])
      simp only [St.ev, St.tag, St.put, beq_no this, cond_false]
      exact ⟨trivial, trivial⟩
    | _ => exact ⟨rfl, rfl⟩
theorem put_bx {σ : St κ} {dst : Option Nat} {d : D κ} {t : Option Tg} : (σ.put dst d t).bx = σ.bx := by cases dst <;> rfl
theorem put_tc {σ : St κ} {dst : Option Nat} {d : D κ} {t : Option Tg} {l o : Nat} : (σ.put dst d t).tg (.c l o) = σ.tg (.c l o) := by cases dst <;> rfl

/-- 'pureW' looks at the operands alone. -/
theorem pureW_congr {op : Op} {ev ev' : Operand → D κ} {K : D κ → Prop} (h : ∀ x ∈ op.operands, ev x = ev' x) (hp : pureW X op ev K) : pureW X op ev' K := by
  cases op <;> simp only [Op.operands] at h <;> try (simp only [pureW] at hp ⊢)
  case pick c a b => rw [h c (by simp), h a (by simp), h b (by simp)] at hp; exact hp
  case binOp op t x y yt => rw [h x (by simp), h y (by simp)] at hp; exact hp
  case unOp u t x => cases u <;> first | (simp only [h x (by simp)] at hp; exact hp) | exact hp.elim
  case extract x i => rw [h x (by simp)] at hp; exact hp
  case call c =>
    split at hp
    · rename_i b hb
      have e : c.args.toList.map ev = c.args.toList.map ev' := List.map_congr_left fun x hx => h x (by simp only [Call.operands, hb, Array.mem_append]; exact .inr (by simpa using hx))
      rw [e] at hp
      exact hp
    · exact hp.elim
  case index t x i => rw [h x (by simp), h i (by simp)] at hp; exact hp
  case indexAddr t x i => rw [h x (by simp), h i (by simp)] at hp; exact hp
  case fieldAddr t x i => rw [h x (by simp)] at hp; exact hp
  case load t x => rw [h x (by simp)] at hp; exact hp
  case field t x i => rw [h x (by simp)] at hp; exact hp
  case convert s d x => rw [h x (by simp)] at hp; exact hp
  case nilCheck x => rw [h x (by simp)] at hp; exact hp
  case makeFunc fn first caps =>
    have e : caps.toList.map ev = caps.toList.map ev' := List.map_congr_left fun x hx => h x (by rw [Array.mem_append]; exact .inr (by simpa using hx))
    rw [e] at hp
    exact hp
  case slice t x lo hi mx =>
    cases mx with
    | none =>
      simp only [pureW] at hp ⊢
      rw [h x (by simp)] at hp
      have e1 : lo.map ev = lo.map ev' := by cases lo with | none => rfl | some y => simp [h y (by simp)]
      have e2 : hi.map ev = hi.map ev' := by cases hi with | none => rfl | some y => simp [h y (by simp)]
      rw [e1, e2] at hp
      exact hp
    | some m => exact hp.elim
  all_goals exact hp.elim

/-- What two states share for an operation: the operands' data, tags up to a taking, variables. -/
structure Like (o : Oper) (σ σ1 : St κ) (q : Option Tg → Option Tg) : Prop where
  ev : ∀ x ∈ o.op.operands, σ1.ev x = σ.ev x
  tag : ∀ x ∈ o.op.operands, σ1.tag x = q (σ.tag x)
  ptr : ∀ l o' cs, σ.bx l = some cs → q (some (.ptr l o')) = some (.ptr l o')
  sub : ∀ t u, q t = some u → t = some u
  own : ∀ l o' cs, σ.bx l = some cs → ownOnly (σ1.tg (.c l o')) = q (ownOnly (σ.tg (.c l o')))
  bx : ∀ l cs, σ.bx l = some cs → σ1.bx l = some cs
  bx' : ∀ x l o' cs, x ∈ o.op.operands → σ1.tag x = some (.ptr l o') → σ1.bx l = some cs → σ.bx l = some cs
  qn : q none = none

theorem parts_congr {parts : Array (Nat × Operand)} {ev ev' : Operand → D κ} (h : ∀ x ∈ (parts.toList.map (·.2)).toArray, ev x = ev' x) : (parts.toList.map fun p => (p.1, ev p.2)) = parts.toList.map fun p => (p.1, ev' p.2) :=
  List.map_congr_left fun p hp => by rw [h p.2 (by simp only [List.mem_toArray, List.mem_map]; exact ⟨p, hp, rfl⟩)]

/-- Forward. -/
theorem PutS.fwd {o : Oper} {σ σ1 : St κ} {q : Option Tg → Option Tg} {d : D κ} {t : Option Tg} (hl : Like o σ σ1 q) (h : PutS X o σ d t) : PutS X o σ1 d (q t) := by
  cases h with
  | pure h => rw [hl.qn]; exact .pure (pureW_congr (fun x hx => (hl.ev x hx).symm) h)
  | @move x ho =>
    have hx : x ∈ o.op.operands := by rcases ho with ho | ho <;> simp [ho, Op.operands]
    rw [← hl.ev x hx, ← hl.tag x hx]
    exact .move ho
  | @fad t x i l off cs fs p ho ht hb hk hp =>
    have hx : x ∈ o.op.operands := by simp [ho, Op.operands]
    rw [hl.ptr _ _ _ hb]
    exact .fad ho (by rw [hl.tag x hx, ht, hl.ptr _ _ _ hb]) (hl.bx _ _ hb) hk hp
  | @nck x l off cs ho ht hb =>
    have hx : x ∈ o.op.operands := by simp [ho, Op.operands]
    rw [hl.ptr _ _ _ hb]
    exact .nck ho (by rw [hl.tag x hx, ht, hl.ptr _ _ _ hb]) (hl.bx _ _ hb)
  | @load t x l off cs d ho ht hb hk hp =>
    have hx : x ∈ o.op.operands := by simp [ho, Op.operands]
    have e : q (match (X.T t).isAgg with | true => none | false => ownOnly (σ.tg (.c l off))) = (match (X.T t).isAgg with | true => none | false => ownOnly (σ1.tg (.c l off))) := by
      cases (X.T t).isAgg
      · exact (hl.own l off cs hb).symm
      · exact hl.qn
    rw [e]
    exact .load ho (by rw [hl.tag x hx, ht, hl.ptr _ _ _ hb]) (hl.bx _ _ hb) hk hp
  | @build t parts fs cs ho hk h =>
    rw [hl.qn]
    exact .build ho hk (by rw [parts_congr (ev' := σ.ev) (fun x hx => hl.ev x (by rw [ho]; exact hx))]; exact h)
  | @row t e n l parts cs ho hd hk hkn hc hb h =>
    rw [hl.qn]
    exact .row ho hd hk hkn hc hb (by rw [parts_congr (ev' := σ.ev) (fun x hx => hl.ev x (by rw [ho]; exact hx))]; exact h)
  | @call c f d x cs ho hc hx h =>
    rw [hl.qn]
    have e : c.args.toList.map σ1.ev = c.args.toList.map σ.ev := List.map_congr_left fun x hx => hl.ev x (by rw [ho]; simp only [Op.operands, Call.operands, hc, Array.mem_append]; exact .inr (by simpa using hx))
    exact .call ho hc ((hl.ev x (by rw [ho]; simp [Op.operands, Call.operands, hc])).trans hx) (by rw [e]; exact h)

/-- Backward. -/
theorem PutS.bwd {o : Oper} {σ σ1 : St κ} {q : Option Tg → Option Tg} {d : D κ} {t1 : Option Tg} (hl : Like o σ σ1 q) (h : PutS X o σ1 d t1) : ∃ t, PutS X o σ d t ∧ q t = t1 := by
  cases h with
  | pure h => exact ⟨none, .pure (pureW_congr hl.ev h), hl.qn⟩
  | @move x ho =>
    have hx : x ∈ o.op.operands := by rcases ho with ho | ho <;> simp [ho, Op.operands]
    rw [hl.ev x hx, hl.tag x hx]
    exact ⟨_, .move ho, rfl⟩
  | @fad t x i l off cs fs p ho ht hb hk hp =>
    have hx : x ∈ o.op.operands := by simp [ho, Op.operands]
    have hb' := hl.bx' x l off cs hx ht hb
    have ht' := hl.sub _ _ ((hl.tag x hx).symm.trans ht)
    exact ⟨_, .fad ho ht' hb' hk hp, hl.ptr _ _ _ hb'⟩
  | @nck x l off cs ho ht hb =>
    have hx : x ∈ o.op.operands := by simp [ho, Op.operands]
    have hb' := hl.bx' x l off cs hx ht hb
    have ht' := hl.sub _ _ ((hl.tag x hx).symm.trans ht)
    exact ⟨_, .nck ho ht' hb', hl.ptr _ _ _ hb'⟩
  | @load t x l off cs d ho ht hb hk hp =>
    have hx : x ∈ o.op.operands := by simp [ho, Op.operands]
    have hb' := hl.bx' x l off cs hx ht hb
    have ht' := hl.sub _ _ ((hl.tag x hx).symm.trans ht)
    refine ⟨_, .load ho ht' hb' hk hp, ?_⟩
    cases (X.T t).isAgg
    · exact (hl.own l off cs hb').symm
    · exact hl.qn
  | @build t parts fs cs ho hk h =>
    exact ⟨none, .build ho hk (by rw [← parts_congr (ev := σ1.ev) (ev' := σ.ev) (fun x hx => hl.ev x (by rw [ho]; exact hx))]; exact h), hl.qn⟩
  | @row t e n l parts cs ho hd hk hkn hc hb h =>
    exact ⟨none, .row ho hd hk hkn hc hb (by rw [← parts_congr (ev := σ1.ev) (ev' := σ.ev) (fun x hx => hl.ev x (by rw [ho]; exact hx))]; exact h), hl.qn⟩
  | @call c f d x cs ho hc hx h =>
    have e : c.args.toList.map σ1.ev = c.args.toList.map σ.ev := List.map_congr_left fun x hx => hl.ev x (by rw [ho]; simp only [Op.operands, Call.operands, hc, Array.mem_append]; exact .inr (by simpa using hx))
    exact ⟨none, .call ho hc ((hl.ev x (by rw [ho]; simp [Op.operands, Call.operands, hc])).symm.trans hx) (by rw [← e]; exact h), hl.qn⟩

theorem killP_none {l : Nat} : killP l none = none := rfl
theorem killP_live {l k o : Nat} (h : k ≠ l) : killP l (some (.ptr k o)) = some (.ptr k o) := by simp only [killP, beq_no h, cond_false]
theorem killP_sub {l : Nat} {t : Option Tg} {u : Tg} (h : killP l t = some u) : t = some u := by
  cases u with
  | ptr => exact (killP_ptr h).1
  | own => exact killP_own h
theorem killO_sub {g : Nat} {t : Option Tg} {u : Tg} (h : killO g t = some u) : t = some u := by
  cases u with
  | ptr => exact killO_ptr h
  | own => exact (killO_own h).1
theorem killP_own' {l : Nat} {t : Option Tg} : killP l (ownOnly t) = ownOnly t := by rcases t with _ | _ | _ <;> rfl
theorem killO_own' {g : Nat} {t : Option Tg} : ownOnly (killO g t) = killO g (ownOnly t) := by
  rcases t with _ | ⟨l, o⟩ | ⟨k, e⟩
  · rfl
  · rfl
  · by_cases h : k = g
    · subst h; simp [killO, ownOnly, beq_yes]
    · simp [killO, ownOnly, beq_no h]

theorem like_put {o : Oper} {σ : St κ} {dst : Option Nat} {d : D κ} {t : Option Tg} (h : ∀ k, dst = some k → ∀ x ∈ o.op.operands, x ≠ .tmp k) : Like o σ (σ.put dst d t) id where
  ev x hx := (put_ev fun k hk => h k hk x hx).1
  tag x hx := (put_ev fun k hk => h k hk x hx).2
  ptr _ _ _ _ := rfl
  sub _ _ h := h
  own l o' cs hb := by rw [put_tc]; rfl
  bx l cs hb := by rw [put_bx]; exact hb
  bx' x l o' cs _ _ hb := by rw [put_bx] at hb; exact hb
  qn := rfl

theorem box_ev {σ : St κ} {l : Nat} {cs : List (D κ)} {t : Option Tg} {x : Operand} (h : x ≠ .tmp l) : (σ.box l cs t).ev x = σ.ev x ∧ (σ.box l cs t).tag x = killP l (σ.tag x) := by
  cases x with
  | tmp i =>
    have : i ≠ l := fun e => h (by rw [e])
    simp only [St.ev, St.tag, St.box, beq_no this, cond_false]
    exact ⟨trivial, trivial⟩
  | _ => exact ⟨rfl, rfl⟩
theorem like_box {o : Oper} {σ : St κ} {l : Nat} {cs : List (D κ)} {t : Option Tg} (h : ∀ x ∈ o.op.operands, x ≠ .tmp l) (hb : σ.bx l = none) : Like o σ (σ.box l cs t) (killP l) where
  ev x hx := (box_ev (h x hx)).1
  tag x hx := (box_ev (h x hx)).2
  ptr k o' cs' hk := killP_live (fun e => by rw [e, hb] at hk; cases hk)
  sub _ _ h := killP_sub h
  own k o' cs' hk := by
    have : k ≠ l := fun e => by rw [e, hb] at hk; cases hk
    rw [killP_own']
    simp only [St.box, beq_no this, cond_false]
  bx k cs' hk := by
    have : k ≠ l := fun e => by rw [e, hb] at hk; cases hk
    simp only [St.box, beq_no this, cond_false]
    exact hk
  bx' x k o' cs' hx ht hk := by
    rw [(box_ev (h x hx)).2] at ht
    have := (killP_ptr ht).2
    simp only [St.box, beq_no this, cond_false] at hk
    exact hk
  qn := rfl
theorem app_ev {σ : St κ} {k g e : Nat} {d : D κ} {x : Operand} (h : x ≠ .tmp k) : (σ.app k g e d).ev x = σ.ev x ∧ (σ.app k g e d).tag x = killO g (σ.tag x) := by
  cases x with
  | tmp i =>
    have : i ≠ k := fun e => h (by rw [e])
    simp only [St.ev, St.tag, St.app, beq_no this, cond_false]
    exact ⟨trivial, trivial⟩
  | _ => exact ⟨rfl, rfl⟩
theorem like_app {o : Oper} {σ : St κ} {k g e : Nat} {d : D κ} (h : ∀ x ∈ o.op.operands, x ≠ .tmp k) : Like o σ (σ.app k g e d) (killO g) where
  ev x hx := (app_ev (h x hx)).1
  tag x hx := (app_ev (h x hx)).2
  ptr _ _ _ _ := rfl
  sub _ _ h := killO_sub h
  own l o' cs hb := killO_own'
  bx l cs hb := hb
  bx' x l o' cs _ _ hb := hb
  qn := rfl

theorem SerS.like {o oj : Oper} {σ σ1 : St κ} {q : Option Tg → Option Tg} (hs : SerS X oj σ σ1 q) (h : ∀ k, oj.dst = some k → ∀ x ∈ o.op.operands, x ≠ .tmp k) : Like o σ σ1 q := by
  cases hs with
  | alloc ho hl hb hk => exact like_box (h _ hl) hb
  | box ho hl hb hg => exact like_box (h _ hl) hb
  | app ho hk h' hs => exact like_app (h _ hk)

theorem St.ext' {a b : St κ} (h1 : ∀ i, a.fr i = b.fr i) (h2 : ∀ p, a.tg p = b.tg p) (h3 : ∀ l, a.bx l = b.bx l) : a = b := by
  cases a; cases b
  simp only [St.mk.injEq]
  exact ⟨funext h1, funext h2, funext h3⟩
theorem put_put {σ : St κ} {i j : Option Nat} {d e : D κ} {t u : Option Tg} (h : ∀ k, i = some k → j ≠ some k) : (σ.put i d t).put j e u = (σ.put j e u).put i d t := by
  cases i with
  | none => rfl
  | some i =>
    cases j with
    | none => rfl
    | some j =>
      have hne : i ≠ j := fun e => h i rfl (by rw [e])
      refine St.ext' (fun k => ?_) (fun p => ?_) (fun l => rfl)
      · simp only [St.put, beq_dec]
        by_cases h1 : k = i <;> by_cases h2 : k = j <;> simp_all
      · cases p with
        | s k =>
          simp only [St.put, beq_dec]
          by_cases h1 : k = i <;> by_cases h2 : k = j <;> simp_all
        | c l o => rfl
theorem put_box {σ : St κ} {i : Option Nat} {d : D κ} {t : Option Tg} {l : Nat} {cs : List (D κ)} {t0 : Option Tg} (h : i ≠ some l) : (σ.put i d t).box l cs t0 = (σ.box l cs t0).put i d (killP l t) := by
  cases i with
  | none => rfl
  | some i =>
    have hne : i ≠ l := fun e => h (by rw [e])
    refine St.ext' (fun k => ?_) (fun p => ?_) (fun l => rfl)
    · simp only [St.put, St.box, beq_dec]
      by_cases h1 : k = i <;> by_cases h2 : k = l <;> simp_all
    · cases p with
      | s k =>
        simp only [St.put, St.box, beq_dec]
        by_cases h1 : k = i <;> by_cases h2 : k = l <;> simp_all
      | c l o => rfl
theorem put_app {σ : St κ} {i : Option Nat} {d d' : D κ} {t : Option Tg} {k g e : Nat} (h : i ≠ some k) : (σ.put i d t).app k g e d' = (σ.app k g e d').put i d (killO g t) := by
  cases i with
  | none => rfl
  | some i =>
    have hne : i ≠ k := fun e => h (by rw [e])
    refine St.ext' (fun j => ?_) (fun p => ?_) (fun l => rfl)
    · simp only [St.put, St.app, beq_dec]
      by_cases h1 : j = i <;> by_cases h2 : j = k <;> simp_all
    · cases p with
      | s j =>
        simp only [St.put, St.app, beq_dec]
        by_cases h1 : j = i <;> by_cases h2 : j = k <;> simp_all
      | c l o => rfl

/-- A datum put elsewhere first. -/
theorem SerS.put {o : Oper} {σ σ1 : St κ} {q : Option Tg → Option Tg} {i : Option Nat} {d : D κ} {t : Option Tg} (hs : SerS X o σ σ1 q) (h1 : ∀ k, i = some k → ∀ x ∈ o.op.operands, x ≠ .tmp k) (h2 : ∀ k, i = some k → o.dst ≠ some k) :
    SerS X o (σ.put i d t) (σ1.put i d (q t)) q := by
  have hev : ∀ x ∈ o.op.operands, (σ.put i d t).ev x = σ.ev x ∧ (σ.put i d t).tag x = σ.tag x := fun x hx => put_ev fun k hk => h1 k hk x hx
  have hi : ∀ l, o.dst = some l → i ≠ some l := fun l hl e => h2 l e hl
  cases hs with
  | alloc ho hl hb hk =>
    rw [← put_box (hi _ hl)]
    exact .alloc ho hl (by rw [put_bx]; exact hb) hk
  | @box e x l ho hl hb hg =>
    have hx := hev x (by simp [ho, Op.operands])
    rw [← put_box (hi _ hl)]
    have := SerS.box (X := X) (σ := σ.put i d t) ho hl (by rw [put_bx]; exact hb) (by rw [hx.1]; exact hg)
    rw [hx.1, hx.2] at this
    exact this
  | @app s x t k g e d ho hk h hs =>
    have hs' := hev s (by simp [ho, Op.operands, Call.operands])
    have hx' := hev x (by simp [ho, Op.operands, Call.operands])
    rw [← put_app (hi _ hk)]
    exact .app ho hk (by rw [hs'.1, hs'.2, hx'.1]; exact h) (by rw [hs'.1, hs'.2]; exact hs)
/-- .. and taken back. -/
theorem SerS.unput {o : Oper} {σ σ2 : St κ} {q : Option Tg → Option Tg} {i : Option Nat} {d : D κ} {t : Option Tg} (hs : SerS X o (σ.put i d t) σ2 q) (h1 : ∀ k, i = some k → ∀ x ∈ o.op.operands, x ≠ .tmp k) (h2 : ∀ k, i = some k → o.dst ≠ some k) :
    ∃ σ1, SerS X o σ σ1 q ∧ σ2 = σ1.put i d (q t) := by
  have hev : ∀ x ∈ o.op.operands, (σ.put i d t).ev x = σ.ev x ∧ (σ.put i d t).tag x = σ.tag x := fun x hx => put_ev fun k hk => h1 k hk x hx
  have hi : ∀ l, o.dst = some l → i ≠ some l := fun l hl e => h2 l e hl
  cases hs with
  | alloc ho hl hb hk =>
    rw [put_bx] at hb
    exact ⟨_, .alloc ho hl hb hk, put_box (hi _ hl)⟩
  | @box e x l ho hl hb hg =>
    have hx := hev x (by simp [ho, Op.operands])
    rw [put_bx] at hb
    rw [hx.1] at hg
    exact ⟨_, .box ho hl hb hg, by rw [hx.1, hx.2]; exact put_box (hi _ hl)⟩
  | @app s x t k g e d ho hk h hs =>
    have hs' := hev s (by simp [ho, Op.operands, Call.operands])
    have hx' := hev x (by simp [ho, Op.operands, Call.operands])
    rw [hs'.1, hs'.2, hx'.1] at h
    rw [hs'.1, hs'.2] at hs
    exact ⟨_, .app ho hk h hs, put_app (hi _ hk)⟩
end
end Go.Proofs.YtfbelaifhgnnlaaDoor
