/-
  Operations as steps between states, over any program: which may change places. For regions whose order is open.
-/
import Derived.Test.YtfbelaifhgnnlaaDoorE13
import Derived.Orders
namespace Go.Proofs.YtfbelaifhgnnlaaDoor
open Go.RowKit
set_option linter.unusedVariables false
set_option linter.unusedSimpArgs false

section
variable {κ : Type} {X : Cx κ}

/-- An operation that only puts a datum, with a tag, into its slot. -/
inductive PutS (X : Cx κ) (o : Oper) (σ : St κ) : D κ → Option Tg → Prop
  | pure {d : D κ} (h : pureW X o.op σ.ev (· = d)) : PutS X o σ d none
  | move {x : Operand} (ho : o.op = .move x ∨ o.op = .assign x) : PutS X o σ (σ.ev x) (σ.tag x)
  | fad {t : TypeId} {x : Operand} {i l off : Nat} {cs : List (D κ)} {fs : List (Nat × Nat)} {p : Nat × Nat} (ho : o.op = .fieldAddr t x i) (ht : σ.tag x = some (.ptr l off)) (hb : σ.bx l = some cs) (hk : (X.T t).k = .struct fs) (hp : fs[i]? = some p) : PutS X o σ .opq (some (.ptr l (off + p.2)))
  | nck {x : Operand} {l off : Nat} {cs : List (D κ)} (ho : o.op = .nilCheck x) (ht : σ.tag x = some (.ptr l off)) (hb : σ.bx l = some cs) : PutS X o σ .opq (some (.ptr l off))
  | load {t : TypeId} {x : Operand} {l off : Nat} {cs : List (D κ)} {d : D κ} (ho : o.op = .load t x) (ht : σ.tag x = some (.ptr l off)) (hb : σ.bx l = some cs) (hk : (X.T t).known = true) (hp : partW (X.T t) off cs (· = d)) :
      PutS X o σ d (match (X.T t).isAgg with | true => none | false => ownOnly (σ.tg (.c l off)))
  | build {t : TypeId} {parts : Array (Nat × Operand)} {fs : List (Nat × Nat)} {cs : List (D κ)} (ho : o.op = .build t parts) (hk : (X.T t).k = .struct fs) (h : fillW (sizeOf? X fs) (parts.toList.map fun p => (p.1, σ.ev p.2)) ((X.T t).zero.cells.toList.map .v) (· = cs)) : PutS X o σ (.agg cs) none
  | row {t e : TypeId} {n l : Nat} {parts : Array (Nat × Operand)} {cs : List (D κ)} (ho : o.op = .buildSlice t n parts) (hl : o.dst = some l) (hk : (X.T t).k = .sl e) (hkn : (X.T e).known = true) (hc : n * (X.T e).size ≤ 16777216) (hb : n * (X.T e).bytes ≤ 140737488355328)
      (h : fillW (fun i => some (i * (X.T e).size, (X.T e).size)) (parts.toList.map fun p => (p.1, σ.ev p.2)) ((List.replicate n ((X.T e).zero.cells.toList.map .v)).flatten) (· = cs)) :
      PutS X o σ (.sl (X.T e).size (X.T e).bytes n (fun i j => cs.getD (i * (X.T e).size + j) .opq)) none
  | call {c : Call} {f : FuncId} {d : D κ} {x : Operand} {cs : List (D κ)} (ho : o.op = .call c) (hc : c.callee = .value x) (hx : σ.ev x = .fn f cs) (h : Sp X f (c.args.toList.map σ.ev ++ cs) d) : PutS X o σ d none

/-- An operation that makes or writes a variable, or appends; what it takes from tags. -/
inductive SerS (X : Cx κ) (o : Oper) (σ : St κ) : St κ → (Option Tg → Option Tg) → Prop
  | alloc {e : TypeId} {l : Nat} (ho : o.op = .alloc e) (hl : o.dst = some l) (hb : σ.bx l = none) (hk : (X.T e).known = true) : SerS X o σ (σ.box l ((X.T e).zero.cells.toList.map .v) none) (killP l)
  | box {e : TypeId} {x : Operand} {l : Nat} (ho : o.op = .box e x) (hl : o.dst = some l) (hb : σ.bx l = none) (hg : (σ.ev x).good = true) : SerS X o σ (σ.box l (σ.ev x).cells (match (σ.ev x).cells with | [_] => ownOnly (σ.tag x) | _ => none)) (killP l)
  | app {s x : Operand} {t : TypeId} {k g e : Nat} {d : D κ} (ho : o.op = .call { callee := .builtin .append, args := #[s, x], argTypes := #[t, t] }) (hk : o.dst = some k) (h : appW X t (σ.ev s) (σ.tag s) (σ.ev x) k (fun g' e' d' => g' = g ∧ e' = e ∧ d' = d))
      (hs : σ.ev s = .v (.slice none 0 0) ∨ ∃ e', σ.tag s = some (.own g e')) : SerS X o σ (σ.app k g e d) (killO g)

theorem sees_ops {ops : List Oper} {o : Oper} {k : Nat} (h : seesB ops o k = false) : ∀ x ∈ o.op.operands, x ≠ .tmp k := by
  unfold seesB at h
  rw [Bool.or_eq_false_iff] at h
  intro x hx e
  have h1 := h.1
  rw [List.any_eq_false] at h1
  have := h1 x (by simpa using hx)
  rw [e] at this
  simp [beq_yes] at this

theorem put_ev {σ : St κ} {dst : Option Nat} {d : D κ} {t : Option Tg} {x : Operand} (h : ∀ k, dst = some k → x ≠ .tmp k) : (σ.put dst d t).ev x = σ.ev x ∧ (σ.put dst d t).tag x = σ.tag x := by
  cases dst with
  | none => exact ⟨rfl, rfl⟩
  | some k =>
    cases x with
    | tmp i =>
      have : i ≠ k := fun e => h k rfl (by rw [e])
      simp only [St.ev, St.tag, St.put, beq_no this, cond_false]
      exact ⟨trivial, trivial⟩
    | _ => exact ⟨rfl, rfl⟩
theorem put_bx {σ : St κ} {dst : Option Nat} {d : D κ} {t : Option Tg} : (σ.put dst d t).bx = σ.bx := by cases dst <;> rfl
theorem put_tc {σ : St κ} {dst : Option Nat} {d : D κ} {t : Option Tg} {l o : Nat} : (σ.put dst d t).tg (.c l o) = σ.tg (.c l o) := by cases dst <;> rfl

/-- 'pureW' looks at the operands alone. -/
theorem pureW_congr {op : Op} {ev ev' : Operand → D κ} {K : D κ → Prop} (h : ∀ x ∈ op.operands, ev x = ev' x) (hp : pureW X op ev K) : pureW X op ev' K := by
  cases op <;> simp only [Op.operands] at h <;> try (simp only [pureW] at hp ⊢)
  case pick c a b => rw [h c (by simp), h a (by simp), h b (by simp)] at hp; exact hp
  case binOp op t x y yt => rw [h x (by simp), h y (by simp)] at hp; exact hp
  case unOp u t x => cases u <;> first | (simp only [h x (by simp)] at hp; exact hp) | exact hp.elim
  case extract x i => rw [h x (by simp)] at hp; exact hp
  case call c =>
    split at hp
    · rename_i b hb
      have e : c.args.toList.map ev = c.args.toList.map ev' := List.map_congr_left fun x hx => h x (by simp only [Call.operands, hb, Array.mem_append]; exact .inr (by simpa using hx))
      rw [e] at hp
      exact hp
    · exact hp.elim
  case index t x i => rw [h x (by simp), h i (by simp)] at hp; exact hp
  case indexAddr t x i => rw [h x (by simp), h i (by simp)] at hp; exact hp
  case fieldAddr t x i => rw [h x (by simp)] at hp; exact hp
  case load t x => rw [h x (by simp)] at hp; exact hp
  case field t x i => rw [h x (by simp)] at hp; exact hp
  case convert s d x => rw [h x (by simp)] at hp; exact hp
  case nilCheck x => rw [h x (by simp)] at hp; exact hp
  case makeFunc fn first caps =>
    have e : caps.toList.map ev = caps.toList.map ev' := List.map_congr_left fun x hx => h x (by rw [Array.mem_append]; exact .inr (by simpa using hx))
    rw [e] at hp
    exact hp
  case slice t x lo hi mx =>
    cases mx with
    | none =>
      simp only [pureW] at hp ⊢
      rw [h x (by simp)] at hp
      have e1 : lo.map ev = lo.map ev' := by cases lo with | none => rfl | some y => simp [h y (by simp)]
      have e2 : hi.map ev = hi.map ev' := by cases hi with | none => rfl | some y => simp [h y (by simp)]
      rw [e1, e2] at hp
      exact hp
    | some m => exact hp.elim
  all_goals exact hp.elim

/-- What two states share for an operation: the operands' data, tags up to a taking, variables but for 'ex'. -/
structure Like (o : Oper) (σ σ1 : St κ) (q : Option Tg → Option Tg) (ex : Option Nat) : Prop where
  ev : ∀ x ∈ o.op.operands, σ1.ev x = σ.ev x
  tag : ∀ x ∈ o.op.operands, σ1.tag x = q (σ.tag x)
  ptr : ∀ l o' cs, σ.bx l = some cs → q (some (.ptr l o')) = some (.ptr l o')
  sub : ∀ t u, q t = some u → t = some u
  own : ∀ l o' cs, ex ≠ some l → σ.bx l = some cs → ownOnly (σ1.tg (.c l o')) = q (ownOnly (σ.tg (.c l o')))
  bx : ∀ l cs, σ.bx l = some cs → ∃ cs', σ1.bx l = some cs' ∧ (ex ≠ some l → cs' = cs)
  bx' : ∀ x l o' cs, x ∈ o.op.operands → σ1.tag x = some (.ptr l o') → σ1.bx l = some cs → ∃ cs', σ.bx l = some cs' ∧ (ex ≠ some l → cs' = cs)
  qn : q none = none

theorem labT_ptr {σ : St κ} {l o' : Nat} {cs : List (D κ)} (h : σ.bx l = some cs) : labT σ (some (.ptr l o')) = some l := by simp only [labT, h]
theorem Like.labT {o : Oper} {σ σ1 : St κ} {q : Option Tg → Option Tg} {ex : Option Nat} (hl : Like o σ σ1 q ex) {x : Operand} (hx : x ∈ o.op.operands) : labT σ1 (σ1.tag x) = labT σ (σ.tag x) := by
  have ht := hl.tag x hx
  cases h0 : σ.tag x with
  | none => rw [ht, h0, hl.qn]; rfl
  | some u =>
    rw [h0] at ht
    cases u with
    | own g e =>
      cases h1 : q (some (.own g e)) with
      | none => rw [ht, h1]; rfl
      | some v => rw [ht, h1, ← hl.sub _ _ h1]; rfl
    | ptr l o' =>
      cases hb : σ.bx l with
      | some cs =>
        obtain ⟨cs', hb', _⟩ := hl.bx l cs hb
        rw [ht, hl.ptr l o' cs hb, labT_ptr hb', labT_ptr hb]
      | none =>
        have e1 : Go.Proofs.YtfbelaifhgnnlaaDoor.labT σ (some (.ptr l o')) = none := by simp only [Go.Proofs.YtfbelaifhgnnlaaDoor.labT, hb]
        rw [e1]
        cases h1 : q (some (.ptr l o')) with
        | none => rw [ht, h1]; rfl
        | some v =>
          have hv := hl.sub _ _ h1
          injection hv with hv
          subst hv
          rw [ht, h1]
          simp only [Go.Proofs.YtfbelaifhgnnlaaDoor.labT]
          cases hb1 : σ1.bx l with
          | none => rfl
          | some cs =>
            obtain ⟨cs', h2, _⟩ := hl.bx' x l o' cs hx (ht.trans h1) hb1
            rw [hb] at h2
            cases h2
theorem Like.lab {o : Oper} {σ σ1 : St κ} {q : Option Tg → Option Tg} {ex : Option Nat} (hl : Like o σ σ1 q ex) : labW o σ1 = labW o σ := by
  unfold labW
  split
  · rename_i t x ho; exact hl.labT (by simp [ho, Op.operands])
  · rename_i t x y ho; exact hl.labT (by simp [ho, Op.operands])
  · rfl

theorem parts_congr {parts : Array (Nat × Operand)} {ev ev' : Operand → D κ} (h : ∀ x ∈ (parts.toList.map (·.2)).toArray, ev x = ev' x) : (parts.toList.map fun p => (p.1, ev p.2)) = parts.toList.map fun p => (p.1, ev' p.2) :=
  List.map_congr_left fun p hp => by rw [h p.2 (by simp only [List.mem_toArray, List.mem_map]; exact ⟨p, hp, rfl⟩)]

/-- Forward. -/
theorem PutS.fwd {o : Oper} {σ σ1 : St κ} {q : Option Tg → Option Tg} {ex : Option Nat} {d : D κ} {t : Option Tg} (hl : Like o σ σ1 q ex) (hne : ∀ l, labW o σ = some l → ex ≠ some l) (h : PutS X o σ d t) : PutS X o σ1 d (q t) := by
  cases h with
  | pure h => rw [hl.qn]; exact .pure (pureW_congr (fun x hx => (hl.ev x hx).symm) h)
  | @move x ho =>
    have hx : x ∈ o.op.operands := by rcases ho with ho | ho <;> simp [ho, Op.operands]
    rw [← hl.ev x hx, ← hl.tag x hx]
    exact .move ho
  | @fad t x i l off cs fs p ho ht hb hk hp =>
    have hx : x ∈ o.op.operands := by simp [ho, Op.operands]
    rw [hl.ptr _ _ _ hb]
    obtain ⟨cs', hb', _⟩ := hl.bx _ _ hb
    exact .fad ho (by rw [hl.tag x hx, ht, hl.ptr _ _ _ hb]) hb' hk hp
  | @nck x l off cs ho ht hb =>
    have hx : x ∈ o.op.operands := by simp [ho, Op.operands]
    rw [hl.ptr _ _ _ hb]
    obtain ⟨cs', hb', _⟩ := hl.bx _ _ hb
    exact .nck ho (by rw [hl.tag x hx, ht, hl.ptr _ _ _ hb]) hb'
  | @load t x l off cs d ho ht hb hk hp =>
    have hx : x ∈ o.op.operands := by simp [ho, Op.operands]
    have hex : ex ≠ some l := hne l (by simp only [labW, ho, ht]; exact labT_ptr hb)
    have e : q (match (X.T t).isAgg with | true => none | false => ownOnly (σ.tg (.c l off))) = (match (X.T t).isAgg with | true => none | false => ownOnly (σ1.tg (.c l off))) := by
      cases (X.T t).isAgg
      · exact (hl.own l off cs hex hb).symm
      · exact hl.qn
    rw [e]
    obtain ⟨cs', hb', hcs⟩ := hl.bx _ _ hb
    rw [hcs hex] at hb'
    exact .load ho (by rw [hl.tag x hx, ht, hl.ptr _ _ _ hb]) hb' hk hp
  | @build t parts fs cs ho hk h =>
    rw [hl.qn]
    exact .build ho hk (by rw [parts_congr (ev' := σ.ev) (fun x hx => hl.ev x (by rw [ho]; exact hx))]; exact h)
  | @row t e n l parts cs ho hd hk hkn hc hb h =>
    rw [hl.qn]
    exact .row ho hd hk hkn hc hb (by rw [parts_congr (ev' := σ.ev) (fun x hx => hl.ev x (by rw [ho]; exact hx))]; exact h)
  | @call c f d x cs ho hc hx h =>
    rw [hl.qn]
    have e : c.args.toList.map σ1.ev = c.args.toList.map σ.ev := List.map_congr_left fun x hx => hl.ev x (by rw [ho]; simp only [Op.operands, Call.operands, hc, Array.mem_append]; exact .inr (by simpa using hx))
    exact .call ho hc ((hl.ev x (by rw [ho]; simp [Op.operands, Call.operands, hc])).trans hx) (by rw [e]; exact h)

/-- Backward. -/
theorem PutS.bwd {o : Oper} {σ σ1 : St κ} {q : Option Tg → Option Tg} {ex : Option Nat} {d : D κ} {t1 : Option Tg} (hl : Like o σ σ1 q ex) (hne : ∀ l, labW o σ1 = some l → ex ≠ some l) (h : PutS X o σ1 d t1) : ∃ t, PutS X o σ d t ∧ q t = t1 := by
  cases h with
  | pure h => exact ⟨none, .pure (pureW_congr hl.ev h), hl.qn⟩
  | @move x ho =>
    have hx : x ∈ o.op.operands := by rcases ho with ho | ho <;> simp [ho, Op.operands]
    rw [hl.ev x hx, hl.tag x hx]
    exact ⟨_, .move ho, rfl⟩
  | @fad t x i l off cs fs p ho ht hb hk hp =>
    have hx : x ∈ o.op.operands := by simp [ho, Op.operands]
    obtain ⟨cs', hb', _⟩ := hl.bx' x l off cs hx ht hb
    have ht' := hl.sub _ _ ((hl.tag x hx).symm.trans ht)
    exact ⟨_, .fad ho ht' hb' hk hp, hl.ptr _ _ _ hb'⟩
  | @nck x l off cs ho ht hb =>
    have hx : x ∈ o.op.operands := by simp [ho, Op.operands]
    obtain ⟨cs', hb', _⟩ := hl.bx' x l off cs hx ht hb
    have ht' := hl.sub _ _ ((hl.tag x hx).symm.trans ht)
    exact ⟨_, .nck ho ht' hb', hl.ptr _ _ _ hb'⟩
  | @load t x l off cs d ho ht hb hk hp =>
    have hx : x ∈ o.op.operands := by simp [ho, Op.operands]
    have hex : ex ≠ some l := hne l (by simp only [labW, ho, ht]; exact labT_ptr hb)
    obtain ⟨cs', hb', hcs⟩ := hl.bx' x l off cs hx ht hb
    rw [hcs hex] at hb'
    have ht' := hl.sub _ _ ((hl.tag x hx).symm.trans ht)
    refine ⟨_, .load ho ht' hb' hk hp, ?_⟩
    cases (X.T t).isAgg
    · exact (hl.own l off cs hex hb').symm
    · exact hl.qn
  | @build t parts fs cs ho hk h =>
    exact ⟨none, .build ho hk (by rw [← parts_congr (ev := σ1.ev) (ev' := σ.ev) (fun x hx => hl.ev x (by rw [ho]; exact hx))]; exact h), hl.qn⟩
  | @row t e n l parts cs ho hd hk hkn hc hb h =>
    exact ⟨none, .row ho hd hk hkn hc hb (by rw [← parts_congr (ev := σ1.ev) (ev' := σ.ev) (fun x hx => hl.ev x (by rw [ho]; exact hx))]; exact h), hl.qn⟩
  | @call c f d x cs ho hc hx h =>
    have e : c.args.toList.map σ1.ev = c.args.toList.map σ.ev := List.map_congr_left fun x hx => hl.ev x (by rw [ho]; simp only [Op.operands, Call.operands, hc, Array.mem_append]; exact .inr (by simpa using hx))
    exact ⟨none, .call ho hc ((hl.ev x (by rw [ho]; simp [Op.operands, Call.operands, hc])).symm.trans hx) (by rw [← e]; exact h), hl.qn⟩

theorem killP_none {l : Nat} : killP l none = none := rfl
theorem killP_live {l k o : Nat} (h : k ≠ l) : killP l (some (.ptr k o)) = some (.ptr k o) := by simp only [killP, beq_no h, cond_false]
theorem killP_sub {l : Nat} {t : Option Tg} {u : Tg} (h : killP l t = some u) : t = some u := by
  cases u with
  | ptr => exact (killP_ptr h).1
  | own => exact killP_own h
theorem killO_sub {g : Nat} {t : Option Tg} {u : Tg} (h : killO g t = some u) : t = some u := by
  cases u with
  | ptr => exact killO_ptr h
  | own => exact (killO_own h).1
theorem killP_own' {l : Nat} {t : Option Tg} : killP l (ownOnly t) = ownOnly t := by rcases t with _ | _ | _ <;> rfl
theorem killO_own' {g : Nat} {t : Option Tg} : ownOnly (killO g t) = killO g (ownOnly t) := by
  rcases t with _ | ⟨l, o⟩ | ⟨k, e⟩
  · rfl
  · rfl
  · by_cases h : k = g
    · subst h; simp [killO, ownOnly, beq_yes]
    · simp [killO, ownOnly, beq_no h]

theorem like_put {o : Oper} {σ : St κ} {dst : Option Nat} {d : D κ} {t : Option Tg} (h : ∀ k, dst = some k → ∀ x ∈ o.op.operands, x ≠ .tmp k) : Like o σ (σ.put dst d t) id none where
  ev x hx := (put_ev fun k hk => h k hk x hx).1
  tag x hx := (put_ev fun k hk => h k hk x hx).2
  ptr _ _ _ _ := rfl
  sub _ _ h := h
  own l o' cs _ hb := by rw [put_tc]; rfl
  bx l cs hb := by rw [put_bx]; exact ⟨cs, hb, fun _ => rfl⟩
  bx' x l o' cs _ _ hb := by rw [put_bx] at hb; exact ⟨cs, hb, fun _ => rfl⟩
  qn := rfl

theorem box_ev {σ : St κ} {l : Nat} {cs : List (D κ)} {t : Option Tg} {x : Operand} (h : x ≠ .tmp l) : (σ.box l cs t).ev x = σ.ev x ∧ (σ.box l cs t).tag x = killP l (σ.tag x) := by
  cases x with
  | tmp i =>
    have : i ≠ l := fun e => h (by rw [e])
    simp only [St.ev, St.tag, St.box, beq_no this, cond_false]
    exact ⟨trivial, trivial⟩
  | _ => exact ⟨rfl, rfl⟩
theorem like_box {o : Oper} {σ : St κ} {l : Nat} {cs : List (D κ)} {t : Option Tg} (h : ∀ x ∈ o.op.operands, x ≠ .tmp l) (hb : σ.bx l = none) : Like o σ (σ.box l cs t) (killP l) none where
  ev x hx := (box_ev (h x hx)).1
  tag x hx := (box_ev (h x hx)).2
  ptr k o' cs' hk := killP_live (fun e => by rw [e, hb] at hk; cases hk)
  sub _ _ h := killP_sub h
  own k o' cs' _ hk := by
    have : k ≠ l := fun e => by rw [e, hb] at hk; cases hk
    rw [killP_own']
    simp only [St.box, beq_no this, cond_false]
  bx k cs' hk := by
    have : k ≠ l := fun e => by rw [e, hb] at hk; cases hk
    simp only [St.box, beq_no this, cond_false]
    exact ⟨cs', hk, fun _ => rfl⟩
  bx' x k o' cs' hx ht hk := by
    rw [(box_ev (h x hx)).2] at ht
    have := (killP_ptr ht).2
    simp only [St.box, beq_no this, cond_false] at hk
    exact ⟨cs', hk, fun _ => rfl⟩
  qn := rfl
theorem app_ev {σ : St κ} {k g e : Nat} {d : D κ} {x : Operand} (h : x ≠ .tmp k) : (σ.app k g e d).ev x = σ.ev x ∧ (σ.app k g e d).tag x = killO g (σ.tag x) := by
  cases x with
  | tmp i =>
    have : i ≠ k := fun e => h (by rw [e])
    simp only [St.ev, St.tag, St.app, beq_no this, cond_false]
    exact ⟨trivial, trivial⟩
  | _ => exact ⟨rfl, rfl⟩
theorem like_app {o : Oper} {σ : St κ} {k g e : Nat} {d : D κ} (h : ∀ x ∈ o.op.operands, x ≠ .tmp k) : Like o σ (σ.app k g e d) (killO g) none where
  ev x hx := (app_ev (h x hx)).1
  tag x hx := (app_ev (h x hx)).2
  ptr _ _ _ _ := rfl
  sub _ _ h := killO_sub h
  own l o' cs _ hb := killO_own'
  bx l cs hb := ⟨cs, hb, fun _ => rfl⟩
  bx' x l o' cs _ _ hb := ⟨cs, hb, fun _ => rfl⟩
  qn := rfl

theorem SerS.like {o oj : Oper} {σ σ1 : St κ} {q : Option Tg → Option Tg} (hs : SerS X oj σ σ1 q) (h : ∀ k, oj.dst = some k → ∀ x ∈ o.op.operands, x ≠ .tmp k) : Like o σ σ1 q none := by
  cases hs with
  | alloc ho hl hb hk => exact like_box (h _ hl) hb
  | box ho hl hb hg => exact like_box (h _ hl) hb
  | app ho hk h' hs => exact like_app (h _ hk)

theorem St.ext' {a b : St κ} (h1 : ∀ i, a.fr i = b.fr i) (h2 : ∀ p, a.tg p = b.tg p) (h3 : ∀ l, a.bx l = b.bx l) : a = b := by
  cases a; cases b
  simp only [St.mk.injEq]
  exact ⟨funext h1, funext h2, funext h3⟩
theorem put_put {σ : St κ} {i j : Option Nat} {d e : D κ} {t u : Option Tg} (h : ∀ k, i = some k → j ≠ some k) : (σ.put i d t).put j e u = (σ.put j e u).put i d t := by
  cases i with
  | none => rfl
  | some i =>
    cases j with
    | none => rfl
    | some j =>
      have hne : i ≠ j := fun e => h i rfl (by rw [e])
      refine St.ext' (fun k => ?_) (fun p => ?_) (fun l => rfl)
      · simp only [St.put, beq_dec]
        by_cases h1 : k = i <;> by_cases h2 : k = j <;> simp_all
      · cases p with
        | s k =>
          simp only [St.put, beq_dec]
          by_cases h1 : k = i <;> by_cases h2 : k = j <;> simp_all
        | c l o => rfl
theorem put_box {σ : St κ} {i : Option Nat} {d : D κ} {t : Option Tg} {l : Nat} {cs : List (D κ)} {t0 : Option Tg} (h : i ≠ some l) : (σ.put i d t).box l cs t0 = (σ.box l cs t0).put i d (killP l t) := by
  cases i with
  | none => rfl
  | some i =>
    have hne : i ≠ l := fun e => h (by rw [e])
    refine St.ext' (fun k => ?_) (fun p => ?_) (fun l => rfl)
    · simp only [St.put, St.box, beq_dec]
      by_cases h1 : k = i <;> by_cases h2 : k = l <;> simp_all
    · cases p with
      | s k =>
        simp only [St.put, St.box, beq_dec]
        by_cases h1 : k = i <;> by_cases h2 : k = l <;> simp_all
      | c l o => rfl
theorem put_app {σ : St κ} {i : Option Nat} {d d' : D κ} {t : Option Tg} {k g e : Nat} (h : i ≠ some k) : (σ.put i d t).app k g e d' = (σ.app k g e d').put i d (killO g t) := by
  cases i with
  | none => rfl
  | some i =>
    have hne : i ≠ k := fun e => h (by rw [e])
    refine St.ext' (fun j => ?_) (fun p => ?_) (fun l => rfl)
    · simp only [St.put, St.app, beq_dec]
      by_cases h1 : j = i <;> by_cases h2 : j = k <;> simp_all
    · cases p with
      | s j =>
        simp only [St.put, St.app, beq_dec]
        by_cases h1 : j = i <;> by_cases h2 : j = k <;> simp_all
      | c l o => rfl

/-- A datum put elsewhere first. -/
theorem SerS.put {o : Oper} {σ σ1 : St κ} {q : Option Tg → Option Tg} {i : Option Nat} {d : D κ} {t : Option Tg} (hs : SerS X o σ σ1 q) (h1 : ∀ k, i = some k → ∀ x ∈ o.op.operands, x ≠ .tmp k) (h2 : ∀ k, i = some k → o.dst ≠ some k) :
    SerS X o (σ.put i d t) (σ1.put i d (q t)) q := by
  have hev : ∀ x ∈ o.op.operands, (σ.put i d t).ev x = σ.ev x ∧ (σ.put i d t).tag x = σ.tag x := fun x hx => put_ev fun k hk => h1 k hk x hx
  have hi : ∀ l, o.dst = some l → i ≠ some l := fun l hl e => h2 l e hl
  cases hs with
  | alloc ho hl hb hk =>
    rw [← put_box (hi _ hl)]
    exact .alloc ho hl (by rw [put_bx]; exact hb) hk
  | @box e x l ho hl hb hg =>
    have hx := hev x (by simp [ho, Op.operands])
    rw [← put_box (hi _ hl)]
    have := SerS.box (X := X) (σ := σ.put i d t) ho hl (by rw [put_bx]; exact hb) (by rw [hx.1]; exact hg)
    rw [hx.1, hx.2] at this
    exact this
  | @app s x t k g e d ho hk h hs =>
    have hs' := hev s (by simp [ho, Op.operands, Call.operands])
    have hx' := hev x (by simp [ho, Op.operands, Call.operands])
    rw [← put_app (hi _ hk)]
    exact .app ho hk (by rw [hs'.1, hs'.2, hx'.1]; exact h) (by rw [hs'.1, hs'.2]; exact hs)
/-- .. and taken back. -/
theorem SerS.unput {o : Oper} {σ σ2 : St κ} {q : Option Tg → Option Tg} {i : Option Nat} {d : D κ} {t : Option Tg} (hs : SerS X o (σ.put i d t) σ2 q) (h1 : ∀ k, i = some k → ∀ x ∈ o.op.operands, x ≠ .tmp k) (h2 : ∀ k, i = some k → o.dst ≠ some k) :
    ∃ σ1, SerS X o σ σ1 q ∧ σ2 = σ1.put i d (q t) := by
  have hev : ∀ x ∈ o.op.operands, (σ.put i d t).ev x = σ.ev x ∧ (σ.put i d t).tag x = σ.tag x := fun x hx => put_ev fun k hk => h1 k hk x hx
  have hi : ∀ l, o.dst = some l → i ≠ some l := fun l hl e => h2 l e hl
  cases hs with
  | alloc ho hl hb hk =>
    rw [put_bx] at hb
    exact ⟨_, .alloc ho hl hb hk, put_box (hi _ hl)⟩
  | @box e x l ho hl hb hg =>
    have hx := hev x (by simp [ho, Op.operands])
    rw [put_bx] at hb
    rw [hx.1] at hg
    exact ⟨_, .box ho hl hb hg, by rw [hx.1, hx.2]; exact put_box (hi _ hl)⟩
  | @app s x t k g e d ho hk h hs =>
    have hs' := hev s (by simp [ho, Op.operands, Call.operands])
    have hx' := hev x (by simp [ho, Op.operands, Call.operands])
    rw [hs'.1, hs'.2, hx'.1] at h
    rw [hs'.1, hs'.2] at hs
    exact ⟨_, .app ho hk h hs, put_app (hi _ hk)⟩
/-- A store into an own variable. -/
inductive StoS (X : Cx κ) (o : Oper) (σ : St κ) : St κ → Nat → Prop
  | mk {t : TypeId} {x y : Operand} {l off : Nat} {cs : List (D κ)} (ho : o.op = .store t x y) (ht : σ.tag x = some (.ptr l off)) (hb : σ.bx l = some cs) (hg : (σ.ev y).good = true) (hn : (σ.ev y).cells.length = (X.T t).size) (hk : (X.T t).known = true) (hle : off + (σ.ev y).cells.length ≤ cs.length) :
      StoS X o σ (σ.store l off (σ.ev y).cells.length (setCells cs off (σ.ev y).cells) (match (σ.ev y).cells with | [_] => ownOnly (σ.tag y) | _ => none)) l
theorem store_ev {σ : St κ} {l off n : Nat} {cs : List (D κ)} {t0 : Option Tg} (x : Operand) : (σ.store l off n cs t0).ev x = σ.ev x ∧ (σ.store l off n cs t0).tag x = σ.tag x := by
  cases x <;> exact ⟨rfl, rfl⟩
theorem StoS.like {o oj : Oper} {σ σ1 : St κ} {l : Nat} (hs : StoS X oj σ σ1 l) : Like o σ σ1 id (some l) := by
  cases hs with
  | @mk ty sx sy l off cs ho ht hb hg hn hk hle =>
    refine ⟨fun x _ => (store_ev x).1, fun x _ => (store_ev x).2, fun _ _ _ _ => rfl, fun _ _ h => h, ?_, ?_, ?_, rfl⟩
    · intro k o' cs' hne hk'
      have : ¬ k = l := fun e => hne (by rw [e])
      simp only [St.store, beq_no this, Bool.false_and, cond_false, id]
    · intro k cs' hk'
      by_cases e : k = l
      · subst e
        exact ⟨_, (show _ = some (setCells cs off (σ.ev sy).cells) by simp only [St.store, beq_yes, cond_true]), fun h => absurd rfl h⟩
      · exact ⟨cs', by simp only [St.store, beq_no e, cond_false]; exact hk', fun _ => rfl⟩
    · intro x k o' cs' _ _ hk'
      by_cases e : k = l
      · subst e
        exact ⟨_, hb, fun h => absurd rfl h⟩
      · simp only [St.store, beq_no e, cond_false] at hk'
        exact ⟨cs', hk', fun _ => rfl⟩
theorem put_store {σ : St κ} {i : Option Nat} {d : D κ} {t : Option Tg} {l off n : Nat} {cs : List (D κ)} {t0 : Option Tg} : (σ.put i d t).store l off n cs t0 = (σ.store l off n cs t0).put i d t := by
  cases i with
  | none => rfl
  | some i =>
    refine St.ext' (fun k => rfl) (fun p => ?_) (fun l => rfl)
    cases p <;> rfl
theorem StoS.put {o : Oper} {σ σ1 : St κ} {l : Nat} {i : Option Nat} {d : D κ} {t : Option Tg} (hs : StoS X o σ σ1 l) (h1 : ∀ k, i = some k → ∀ x ∈ o.op.operands, x ≠ .tmp k) : StoS X o (σ.put i d t) (σ1.put i d t) l := by
  have hev : ∀ x ∈ o.op.operands, (σ.put i d t).ev x = σ.ev x ∧ (σ.put i d t).tag x = σ.tag x := fun x hx => put_ev fun k hk => h1 k hk x hx
  cases hs with
  | @mk ty x y l off cs ho ht hb hg hn hk hle =>
    have hx := hev x (by simp [ho, Op.operands])
    have hy := hev y (by simp [ho, Op.operands])
    rw [← put_store]
    have := StoS.mk (X := X) (o := o) (σ := σ.put i d t) (t := ty) (x := x) (y := y) (l := l) (off := off) (cs := cs) ho (by rw [hx.2]; exact ht) (by rw [put_bx]; exact hb) (by rw [hy.1]; exact hg) (by rw [hy.1]; exact hn) hk (by rw [hy.1]; exact hle)
    rw [hy.1, hy.2] at this
    exact this
theorem StoS.unput {o : Oper} {σ σ2 : St κ} {l : Nat} {i : Option Nat} {d : D κ} {t : Option Tg} (hs : StoS X o (σ.put i d t) σ2 l) (h1 : ∀ k, i = some k → ∀ x ∈ o.op.operands, x ≠ .tmp k) : ∃ σ1, StoS X o σ σ1 l ∧ σ2 = σ1.put i d t := by
  have hev : ∀ x ∈ o.op.operands, (σ.put i d t).ev x = σ.ev x ∧ (σ.put i d t).tag x = σ.tag x := fun x hx => put_ev fun k hk => h1 k hk x hx
  cases hs with
  | @mk ty x y l off cs ho ht hb hg hn hk hle =>
    have hx := hev x (by simp [ho, Op.operands])
    have hy := hev y (by simp [ho, Op.operands])
    rw [put_bx] at hb
    rw [hx.2] at ht
    rw [hy.1] at hg hn hle
    refine ⟨_, StoS.mk (X := X) (o := o) (σ := σ) ho ht hb hg hn hk hle, ?_⟩
    rw [hy.1, hy.2]
    exact put_store
theorem StoS.isSto {o : Oper} {σ σ1 : St κ} {l : Nat} (hs : StoS X o σ σ1 l) : isSto o = true := by
  cases hs with
  | mk ho _ _ _ _ _ _ => simp [Go.Proofs.YtfbelaifhgnnlaaDoor.isSto, ho]
theorem StoS.lab {o : Oper} {σ σ1 : St κ} {l : Nat} (hs : StoS X o σ σ1 l) : labW o σ = some l := by
  cases hs with
  | mk ho ht hb _ _ _ _ => simp only [labW, ho, ht]; exact labT_ptr hb
theorem sto_of {o : Oper} {σ σ' : St κ} (hs : isSto o = true) (h : opW X o σ (· = σ')) : ∃ l, StoS X o σ σ' l := by
  unfold Go.Proofs.YtfbelaifhgnnlaaDoor.isSto at hs
  split at hs
  · rename_i t x y ho
    unfold opW at h
    rw [ho] at h
    simp only at h
    split at h
    · rename_i l off ht
      split at h
      · rename_i cs hb
        simp only [fD_eq] at h
        obtain ⟨hc, h⟩ := condW_no h
        simp only [Bool.and_eq_true] at hc
        obtain ⟨⟨⟨h1, h2⟩, h3⟩, h4⟩ := hc
        simp only [fL_eq, fT_eq, fN_eq] at h
        rw [← h]
        exact ⟨l, .mk ho ht hb h1 (Nat.eq_of_beq_eq_true h2) h3 (Nat.le_of_ble_eq_true h4)⟩
      · exact h.elim
    · exact h.elim
  · cases hs
end
end Go.Proofs.YtfbelaifhgnnlaaDoor
