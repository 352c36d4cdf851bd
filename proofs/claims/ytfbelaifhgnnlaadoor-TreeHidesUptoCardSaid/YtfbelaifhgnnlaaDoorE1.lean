/-
  A call's state as data, over any program: what its slots hold, its own variables, which slots point to them, which slices it owns; what it is for a frame and a world to be in such a state.
-/
import Derived.Test.YtfbelaifhgnnlaaDoorE0
namespace Go.Proofs.YtfbelaifhgnnlaaDoor
open Go.RowKit

/-- A place: a slot, or a cell of an own variable. -/
inductive Pl where
  | s (t : Nat)
  | c (l o : Nat)
/-- A pointer to an own variable's cell; a slice that the call owns, with its elements' type. -/
inductive Tg where
  | ptr (l o : Nat)
  | own (g e : Nat)

structure St (κ : Type) where
  fr : Nat → D κ
  tg : Pl → Option Tg
  bx : Nat → Option (List (D κ))

def killP (l : Nat) : Option Tg → Option Tg
  | some (.ptr k o) => bif Nat.beq k l then none else some (.ptr k o)
  | t => t
def killO (g : Nat) : Option Tg → Option Tg
  | some (.own k e) => bif Nat.beq k g then none else some (.own k e)
  | t => t

section
variable {κ : Type}
/-- The value's head is laid open first. -/
def fD (d : D κ) (K : D κ → Prop) : Prop :=
  match d with
  | .v x => K (.v x)
  | .agg cs => K (.agg cs)
  | .tup cs => K (.tup cs)
  | .sl sz b n f => K (.sl sz b n f)
  | .rc k => K (.rc k)
  | .ref n f => K (.ref n f)
  | .fn f cs => K (.fn f cs)
  | .und => K .und
  | .opq => K .opq
def fL : List (D κ) → (List (D κ) → Prop) → Prop
  | [], K => K []
  | d :: r, K => fD d fun d => fL r fun r => K (d :: r)
def fT (t : Option Tg) (K : Option Tg → Prop) : Prop :=
  match t with
  | none => K none
  | some (.ptr l o) => K (some (.ptr l o))
  | some (.own g e) => K (some (.own g e))
def fN (n : Nat) (K : Nat → Prop) : Prop :=
  match n with
  | 0 => K 0
  | n + 1 => K (n + 1)
theorem fD_eq (d : D κ) (K : D κ → Prop) : fD d K = K d := by cases d <;> rfl
theorem fL_eq : ∀ (l : List (D κ)) (K : List (D κ) → Prop), fL l K = K l
  | [], _ => rfl
  | d :: r, K => by rw [fL, fD_eq, fL_eq r]
theorem fT_eq (t : Option Tg) (K : Option Tg → Prop) : fT t K = K t := by rcases t with _ | _ | _ <;> rfl
theorem fN_eq (n : Nat) (K : Nat → Prop) : fN n K = K n := by cases n <;> rfl

/-- A fact that comes with an operation. -/
abbrev facW (p A : Prop) : Prop := p → A
theorem facW_intro {p A : Prop} (h : p → A) : facW p A := h
/-- What a bool decides. -/
def condW (b : Bool) (A B : Prop) : Prop := match b with | true => A | false => B
theorem condW_dec {p : Prop} [Decidable p] {A B : Prop} (h : p → A) (g : ¬ p → B) : condW (decide p) A B := by
  unfold condW
  by_cases hp : p
  · rw [decide_eq_true hp]; exact h hp
  · rw [decide_eq_false hp]; exact g hp
theorem condW_not {b : Bool} {A B : Prop} (h : condW b B A) : condW (!b) A B := by cases b <;> exact h
theorem condW_bool {b : Bool} {A B : Prop} (h : b = true → A) (g : b = false → B) : condW b A B := by
  cases b
  · exact g rfl
  · exact h rfl
theorem condW_spec {b : Bool} {A B : Prop} (h : condW b A B) : (b = true ∧ A) ∨ (b = false ∧ B) := by
  cases b
  · exact .inr ⟨rfl, h⟩
  · exact .inl ⟨rfl, h⟩

theorem condW_no {b : Bool} {A : Prop} (h : condW b A False) : b = true ∧ A := by
  cases b
  · exact h.elim
  · exact ⟨rfl, h⟩

def St.ev (σ : St κ) : Operand → D κ
  | .tmp t => σ.fr t
  | .const x => match okB x with | true => .v x | false => .opq
  | .func f => .fn f []
  | .global _ => .opq
def St.tag (σ : St κ) : Operand → Option Tg
  | .tmp t => σ.tg (.s t)
  | _ => none

def St.put (σ : St κ) (dst : Option Nat) (d : D κ) (t : Option Tg) : St κ :=
  match dst with
  | none => σ
  | some k => { σ with fr := fun i => bif Nat.beq i k then d else σ.fr i, tg := fun p => match p with | .s i => bif Nat.beq i k then t else σ.tg (.s i) | .c l o => σ.tg (.c l o) }
/-- A new variable, at slot l. -/
def St.box (σ : St κ) (l : Nat) (cs : List (D κ)) (t0 : Option Tg) : St κ where
  fr := fun i => bif Nat.beq i l then .opq else σ.fr i
  tg := fun p => match p with
    | .s i => bif Nat.beq i l then some (.ptr l 0) else killP l (σ.tg (.s i))
    | .c k o => bif Nat.beq k l then (bif Nat.beq o 0 then t0 else none) else σ.tg (.c k o)
  bx := fun i => bif Nat.beq i l then some cs else σ.bx i
/-- The cells of variable l become cs; those from off on, n of them, are new. -/
def St.store (σ : St κ) (l off n : Nat) (cs : List (D κ)) (t0 : Option Tg) : St κ where
  fr := σ.fr
  tg := fun p => match p with
    | .s i => σ.tg (.s i)
    | .c k o => bif Nat.beq k l && (Nat.ble off o && Nat.blt o (off + n)) then t0 else σ.tg (.c k o)
  bx := fun i => bif Nat.beq i l then some cs else σ.bx i
/-- What was appended lies in slot k; none but it may append to group g. -/
def St.app (σ : St κ) (k g e : Nat) (d : D κ) : St κ where
  fr := fun i => bif Nat.beq i k then d else σ.fr i
  tg := fun p => match p with
    | .s i => bif Nat.beq i k then some (.own g e) else killO g (σ.tg (.s i))
    | .c l o => killO g (σ.tg (.c l o))
  bx := σ.bx

def setCells (cs : List (D κ)) (o : Nat) : List (D κ) → List (D κ)
  | [] => cs
  | d :: r => setCells (cs.set o d) (o + 1) r
def D.cells : D κ → List (D κ)
  | .agg cs => cs
  | d => [d]
/-- One cell that is known. -/
def D.one : D κ → Bool
  | .v _ => true
  | .sl _ _ _ _ => true
  | .rc _ => true
  | .fn _ _ => true
  | _ => false
/-- Cells that are known. -/
def D.good : D κ → Bool
  | .agg _ => true
  | d => d.one

structure Grp where
  b : Nat
  n : Nat
  c : Nat
  e : Nat

def BoxAt (V : VW κ) (M : Nat → Nat → Prop) (w : World) (b : Nat) (cs : List (D κ)) : Prop :=
  ∃ (arr : Array Value) (T : TypeId), w.heap[b]? = some (.cells arr T (0, 0)) ∧ arr.size = cs.length ∧ (∀ i, i < cs.length → (arr.getD i undef).oneCell' = true) ∧ ∀ i d, cs[i]? = some d → Rep V M w d (arr.getD i undef)
def GrpAt (X : Cx κ) (M : Nat → Nat → Prop) (w : World) (B : Nat) (G : Grp) : Prop :=
  B ≤ G.b ∧ G.n ≤ G.c ∧ G.c ≤ maxLen ∧ (∀ o, M G.b o → o < G.n * (X.T G.e).size) ∧ ∃ cur, w.heap[G.b]? = some (.cells cur G.e (0, 0)) ∧ cur.size = G.c * (X.T G.e).size
def OwnV (G : Option Grp) (e : Nat) (x : Value) : Prop :=
  match G with
  | none => x = .slice none 0 0
  | some G => G.e = e ∧ x = .slice (some ⟨G.b, 0, none⟩) G.n G.c

/-- The frame and the world are in the state. -/
structure Sim (X : Cx κ) (M0 : Nat → Nat → Prop) (w0 : World) (N : Nat) (M : Nat → Nat → Prop) (β : Nat → Nat) (γ : Nat → Option Grp) (σ : St κ) (a : Act) (w : World) : Prop where
  below : Below w0.heap.size w0 w
  df : a.defers = []
  sz : a.tmps.size = N
  m0 : ∀ b o, M0 b o → M b o
  mN : ∀ b o, M b o → M0 b o ∨ w0.heap.size ≤ b
  mlt : ∀ b o, M b o → b < w.heap.size
  fr : ∀ i, Rep X.V M w (σ.fr i) (a.tmps.getD i undef)
  bx : ∀ l cs, σ.bx l = some cs → BoxAt X.V M w (β l) cs
  bB : ∀ l cs, σ.bx l = some cs → w0.heap.size ≤ β l
  bm : ∀ l cs o, σ.bx l = some cs → ¬ M (β l) o
  bi : ∀ l l' cs cs', σ.bx l = some cs → σ.bx l' = some cs' → β l = β l' → l = l'
  gr : ∀ g G, γ g = some G → GrpAt X M w w0.heap.size G
  gb : ∀ g G l cs, γ g = some G → σ.bx l = some cs → G.b ≠ β l
  gi : ∀ g g' G G', γ g = some G → γ g' = some G' → G.b = G'.b → g = g'
  tp : ∀ t l o, σ.tg (.s t) = some (.ptr l o) → σ.bx l ≠ none → a.tmps.getD t undef = .pointer (some ⟨β l, o, none⟩)
  to : ∀ t g e, σ.tg (.s t) = some (.own g e) → OwnV (γ g) e (a.tmps.getD t undef)
  tc : ∀ l o g e cs, σ.tg (.c l o) = some (.own g e) → σ.bx l = some cs → ∃ x, w.cell? ⟨β l, o, none⟩ = some x ∧ OwnV (γ g) e x

theorem beq_dec (i k : Nat) : Nat.beq i k = decide (i = k) := by
  by_cases h : i = k
  · subst h; simp
  · rw [decide_eq_false h]
    cases e : Nat.beq i k
    · rfl
    · exact absurd (Nat.eq_of_beq_eq_true e) h
theorem beq_no {i k : Nat} (h : ¬ i = k) : Nat.beq i k = false := by rw [beq_dec]; exact decide_eq_false h
theorem beq_yes (i : Nat) : Nat.beq i i = true := by rw [beq_dec]; exact decide_eq_true rfl

section
variable {X : Cx κ} {M0 M : Nat → Nat → Prop} {w0 w : World} {N : Nat} {β : Nat → Nat} {γ : Nat → Option Grp} {σ : St κ} {a : Act}

theorem getD_put (a : Act) (k i : Nat) (x : Value) (hk : k < a.tmps.size) : (a.put (some k) x).tmps.getD i undef = if i = k then x else a.tmps.getD i undef := by
  simp only [Act.put]
  by_cases h : i = k
  · subst h
    rw [if_pos rfl]
    simp [Array.getD, hk]
  · rw [if_neg h]
    by_cases hi : i < a.tmps.size
    · simp [Array.getD, hi, Array.getElem_setIfInBounds_ne _ (Ne.symm h)]
    · simp [Array.getD, hi]

theorem Sim.put (h : Sim X M0 w0 N M β γ σ a w) {dst : Option Nat} {d : D κ} {x : Value} {t : Option Tg} (hd : ∀ k, dst = some k → k < N) (hr : Rep X.V M w d x)
    (hp : ∀ l o, t = some (.ptr l o) → σ.bx l ≠ none → x = .pointer (some ⟨β l, o, none⟩)) (ho : ∀ g e, t = some (.own g e) → OwnV (γ g) e x) :
    Sim X M0 w0 N M β γ (σ.put dst d t) (a.put dst x) w := by
  cases dst with
  | none => exact h
  | some k =>
    have hk := hd k rfl
    have hg := fun i => getD_put a k i x (by rw [h.sz]; exact hk)
    refine { h with sz := by simp [Act.put, h.sz], fr := ?_, tp := ?_, to := ?_, tc := ?_ , df := h.df }
    · intro i
      rw [hg]
      by_cases e : i = k
      · subst e
        simp only [St.put, beq_yes, cond_true, if_true]
        exact hr
      · simp only [St.put, beq_no e, cond_false, if_neg e]
        exact h.fr i
    · intro i l o ht hb
      rw [hg]
      by_cases e : i = k
      · subst e
        simp only [St.put, beq_yes, cond_true] at ht
        simp only [if_true]
        exact hp l o ht hb
      · simp only [St.put, beq_no e, cond_false] at ht
        rw [if_neg e]
        exact h.tp i l o ht hb
    · intro i g e' ht
      rw [hg]
      by_cases e : i = k
      · subst e
        simp only [St.put, beq_yes, cond_true] at ht
        simp only [if_true]
        exact ho g _ ht
      · simp only [St.put, beq_no e, cond_false] at ht
        rw [if_neg e]
        exact h.to i g _ ht
    · intro l o g e cs ht hb
      exact h.tc l o g e cs ht hb

/-- A value with no tag. -/
theorem Sim.put0 (h : Sim X M0 w0 N M β γ σ a w) {dst : Option Nat} {d : D κ} {x : Value} (hd : ∀ k, dst = some k → k < N) (hr : Rep X.V M w d x) : Sim X M0 w0 N M β γ (σ.put dst d none) (a.put dst x) w :=
  h.put hd hr (fun _ _ h => by cases h) (fun _ _ h => by cases h)

theorem BoxAt.keep {w w' : World} {M M' : Nat → Nat → Prop} {V : VW κ} {b : Nat} {cs : List (D κ)} (h : BoxAt V M w b cs) (hb : w'.heap[b]? = w.heap[b]?) (hM : ∀ b o, M b o → M' b o) (hw : ∀ b o, M b o → w'.cell? ⟨b, o, none⟩ = w.cell? ⟨b, o, none⟩) : BoxAt V M' w' b cs := by
  obtain ⟨arr, T, h1, h2, h3, h4⟩ := h
  exact ⟨arr, T, hb.trans h1, h2, h3, fun i d hd => (h4 i d hd).mono hM hw⟩

theorem heap_lt {w : World} {b : Nat} {o : Obj} (h : w.heap[b]? = some o) : b < w.heap.size := (Array.getElem?_eq_some_iff.1 h).1

/-- Memory grows: new blocks, some of them to be looked at. -/
theorem Sim.grow (h : Sim X M0 w0 N M β γ σ a w) {w' : World} {M' : Nat → Nat → Prop} (hb : Below w.heap.size w w') (hM : ∀ b o, M b o → M' b o) (hN : ∀ b o, M' b o → M b o ∨ (w.heap.size ≤ b ∧ b < w'.heap.size)) :
    Sim X M0 w0 N M' β γ σ a w' := by
  have hw : ∀ b o, M b o → w'.cell? ⟨b, o, none⟩ = w.cell? ⟨b, o, none⟩ := fun b o hm => Below.cellM hb (h.mlt b o hm)
  have hsz := h.below.size
  refine ⟨h.below.trans (hb.mono hsz), h.df, h.sz, fun b o hm => hM _ _ (h.m0 b o hm), ?_, ?_, fun i => (h.fr i).mono hM hw, ?_, h.bB, ?_, h.bi, ?_, h.gb, h.gi, h.tp, h.to, ?_⟩
  · intro b o hm
    rcases hN b o hm with hm | ⟨hm, _⟩
    · exact h.mN b o hm
    · exact .inr (by omega)
  · intro b o hm
    rcases hN b o hm with hm | ⟨_, hm⟩
    · have := h.mlt b o hm
      have := hb.size
      omega
    · exact hm
  · intro l cs hl
    have h1 := h.bx l cs hl
    obtain ⟨arr, T, h2, _⟩ := h1
    exact (h.bx l cs hl).keep (hb.block _ (heap_lt h2)) hM hw
  · intro l cs o hl hm
    obtain ⟨arr, T, h2, _⟩ := h.bx l cs hl
    have := heap_lt h2
    rcases hN _ o hm with hm | ⟨hm, _⟩
    · exact h.bm l cs o hl hm
    · omega
  · intro g G hg
    obtain ⟨h1, h2, h3, h4, cur, h5, h6⟩ := h.gr g G hg
    have := heap_lt h5
    refine ⟨h1, h2, h3, fun o hm => ?_, cur, (hb.block _ (heap_lt h5)).trans h5, h6⟩
    rcases hN _ o hm with hm | ⟨hm, _⟩
    · exact h4 o hm
    · omega
  · intro l o g e cs ht hl
    obtain ⟨x, hx, ho⟩ := h.tc l o g e cs ht hl
    obtain ⟨arr, T, h2, _⟩ := h.bx l cs hl
    exact ⟨x, (Below.cellM hb (heap_lt h2)).trans hx, ho⟩

theorem Sim.ev (h : Sim X M0 w0 N M β γ σ a w) (x : Operand) : Rep X.V M w (σ.ev x) (a.eval x) := by
  cases x with
  | tmp t => exact h.fr t
  | const v =>
    show Rep X.V M w (match okB v with | true => .v v | false => .opq) v
    split
    · rename_i hv; exact .v hv
    · exact .opq
  | func f => exact .fn rfl (fun i d h => by simp at h)
  | global g => exact .opq
end
end
end Go.Proofs.YtfbelaifhgnnlaaDoor
