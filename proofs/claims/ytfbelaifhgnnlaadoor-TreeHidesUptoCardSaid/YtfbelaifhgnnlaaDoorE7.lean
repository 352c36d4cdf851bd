/-
  One operation of a call, over any program: what it does to the call's state, and that it does it.
-/
import Derived.Test.YtfbelaifhgnnlaaDoorE6
namespace Go.Proofs.YtfbelaifhgnnlaaDoor
open Go.RowKit
set_option linter.unusedVariables false
set_option linter.unusedSimpArgs false

section
variable {κ : Type}

/-- append: onto group g of n elements f. -/
def appTo (X : Cx κ) (e : Nat) (g n : Nat) (f : Nat → Nat → D κ) (dx : D κ) (K : Nat → Nat → D κ → Prop) : Prop :=
  match dx.asSl X.V (X.T e).size (X.T e).bytes with
  | some (sz, _, m, h) => condW (Nat.beq sz (X.T e).size && (X.T e).known) ((n + m) * (X.T e).bytes ≤ 140737488355328 ∧ K g e (.sl (X.T e).size (X.T e).bytes (n + m) (fun i j => if i < n then f i j else h (i - n) j))) False
  | none => False
def appW (X : Cx κ) (t : TypeId) (ds : D κ) (ts : Option Tg) (dx : D κ) (k : Nat) (K : Nat → Nat → D κ → Prop) : Prop :=
  match (X.T t).k with
  | .sl e => match ds with
    | .v (.slice none 0 0) => match dx.asSl X.V (X.T e).size (X.T e).bytes with
      | some (sz, _, m, h) => condW (Nat.beq sz (X.T e).size && (X.T e).known) (m * (X.T e).bytes ≤ 140737488355328 ∧ K k e (.sl (X.T e).size (X.T e).bytes m h)) False
      | none => False
    | .sl sz _ n f => match ts with
      | some (.own g e') => condW (Nat.beq e' e && Nat.beq sz (X.T e).size) (appTo X e g n f dx K) False
      | _ => False
    | _ => False
  | _ => False

def sizeOf? (X : Cx κ) (fs : List (Nat × Nat)) (i : Nat) : Option (Nat × Nat) :=
  match fs[i]? with
  | some p => match (X.T p.1).known with | true => some (p.2, (X.T p.1).size) | false => none
  | none => none

/-- What an operation does. -/
def opW (X : Cx κ) (o : Oper) (σ : St κ) (K : St κ → Prop) : Prop :=
  match o.op with
  | .move x => fD (σ.ev x) fun d => fT (σ.tag x) fun t => K (σ.put o.dst d t)
  | .assign x => fD (σ.ev x) fun d => fT (σ.tag x) fun t => K (σ.put o.dst d t)
  | .alloc e => match o.dst with
    | some l => match σ.bx l with
      | none => condW (X.T e).known (fL ((X.T e).zero.cells.toList.map .v) fun cs => K (σ.box l cs none)) False
      | some _ => False
    | none => False
  | .box e x => match o.dst with
    | some l => match σ.bx l with
      | none => fD (σ.ev x) fun d => condW d.good (fL d.cells fun cs => fT (match cs with | [_] => ownOnly (σ.tag x) | _ => none) fun t => K (σ.box l cs t)) False
      | some _ => False
    | none => False
  | .fieldAddr t x i => match σ.tag x with
    | some (.ptr l off) => match σ.bx l, (X.T t).k with
      | some _, .struct fs => match fs[i]? with
        | some p => fN (off + p.2) fun o' => K (σ.put o.dst .opq (some (.ptr l o')))
        | none => False
      | _, _ => False
    | _ => pureW X o.op σ.ev fun d => K (σ.put o.dst d none)
  | .load t x => match σ.tag x with
    | some (.ptr l off) => match σ.bx l with
      | some cs => condW (X.T t).known (partW (X.T t) off cs fun d => fT (match (X.T t).isAgg with | true => none | false => ownOnly (σ.tg (.c l off))) fun tg => K (σ.put o.dst d tg)) False
      | none => False
    | _ => pureW X o.op σ.ev fun d => K (σ.put o.dst d none)
  | .store t x y => match σ.tag x with
    | some (.ptr l off) => match σ.bx l with
      | some cs => fD (σ.ev y) fun d => condW (d.good && Nat.beq d.cells.length (X.T t).size && (X.T t).known && Nat.ble (off + d.cells.length) cs.length)
          (fL (setCells cs off d.cells) fun cs' => fT (match d.cells with | [_] => ownOnly (σ.tag y) | _ => none) fun t0 => fN d.cells.length fun n => K (σ.store l off n cs' t0)) False
      | none => False
    | _ => False
  | .nilCheck x => match σ.tag x with
    | some (.ptr l off) => match σ.bx l with
      | some _ => K (σ.put o.dst .opq (some (.ptr l off)))
      | none => False
    | _ => pureW X o.op σ.ev fun d => K (σ.put o.dst d none)
  | .build t parts => match (X.T t).k with
    | .struct fs => fillW (sizeOf? X fs) (parts.toList.map fun p => (p.1, σ.ev p.2)) ((X.T t).zero.cells.toList.map .v) fun cs => K (σ.put o.dst (.agg cs) none)
    | _ => False
  | .buildSlice t n parts => match (X.T t).k, o.dst with
    | .sl e, some l => condW ((X.T e).known && Nat.ble (n * (X.T e).size) 16777216 && Nat.ble (n * (X.T e).bytes) 140737488355328)
        (fillW (fun i => some (i * (X.T e).size, (X.T e).size)) (parts.toList.map fun p => (p.1, σ.ev p.2)) ((List.replicate n ((X.T e).zero.cells.toList.map .v)).flatten) fun cs =>
          K (σ.app l l e (.sl (X.T e).size (X.T e).bytes n (fun i j => cs.getD (i * (X.T e).size + j) .opq)))) False
    | _, _ => False
  | .call c => match c.callee with
    | .value x => match σ.ev x with
      | .fn f cs => fL (c.args.toList.map σ.ev ++ cs) fun ds => ∃ d, Sp X f ds d ∧ fD d fun d => K (σ.put o.dst d none)
      | _ => False
    | .builtin .append => match c.args.toList, c.argTypes.toList, o.dst with
      | [s, x], [t, t'], some k => condW (Nat.beq t t') (fD (σ.ev s) fun ds => fD (σ.ev x) fun dx => appW X t ds (σ.tag s) dx k fun g e d => K (σ.app k g e d)) False
      | _, _, _ => False
    | _ => pureW X o.op σ.ev fun d => K (σ.put o.dst d none)
  | _ => pureW X o.op σ.ev fun d => K (σ.put o.dst d none)

/-- The frame and the world are in a state which will do. -/
def Post (X : Cx κ) (M0 : Nat → Nat → Prop) (w0 : World) (N : Nat) (K : St κ → Prop) (a : Act) (w : World) : Prop := ∃ M β γ σ, Sim X M0 w0 N M β γ σ a w ∧ K σ

variable {X : Cx κ} {M0 M : Nat → Nat → Prop} {w0 w : World} {N : Nat} {β : Nat → Nat} {γ : Nat → Option Grp} {σ : St κ} {a : Act} {Q : Exit → Act → World → Prop}

theorem wp_value {o : Oper} {x : Value} {w' : World} {next : Act → World → Prop} (h : (execOp a.eval o).run X.P w = .ok (.value x) w') (hn : next (a.put o.dst x) w') : o.wp X.P a w next Q := by
  unfold Oper.wp
  rw [h]
  exact hn

theorem pure_wp (h : Sim X M0 w0 N M β γ σ a w) {o : Oper} {K : St κ → Prop} (hd : ∀ k, o.dst = some k → k < N) (hp : pureW X o.op σ.ev fun d => K (σ.put o.dst d none)) : o.wp X.P a w (Post X M0 w0 N K) Q := by
  obtain ⟨x, d, h1, h2, h3⟩ := pure_gives o a.eval σ.ev h.ev _ hp
  exact wp_value h1 ⟨M, β, γ, _, h.put0 hd h2, h3⟩

theorem move_wp (h : Sim X M0 w0 N M β γ σ a w) {o : Oper} {K : St κ → Prop} {x : Operand} (ho : o.op = .move x ∨ o.op = .assign x) (hd : ∀ k, o.dst = some k → k < N) (hK : K (σ.put o.dst (σ.ev x) (σ.tag x))) : o.wp X.P a w (Post X M0 w0 N K) Q := by
  have he : (execOp a.eval o).run X.P w = .ok (.value (a.eval x)) w := by
    rcases ho with ho | ho <;> simp [execOp, ho]
  refine wp_value he ⟨M, β, γ, _, h.put hd (h.ev x) ?_ ?_, hK⟩
  · intro l off ht hb
    cases x with
    | tmp t => exact h.tp t l off ht hb
    | _ => cases ht
  · intro g e ht
    cases x with
    | tmp t => exact h.to t g e ht
    | _ => cases ht

/-- The own variable behind a pointer. -/
theorem ptr_at (h : Sim X M0 w0 N M β γ σ a w) {x : Operand} {l off : Nat} {cs : List (D κ)} (ht : σ.tag x = some (.ptr l off)) (hb : σ.bx l = some cs) : a.eval x = .pointer (some ⟨β l, off, none⟩) := by
  cases x with
  | tmp t => exact h.tp t l off ht (by rw [hb]; exact fun h => by cases h)
  | _ => cases ht

theorem box_cells (h : Sim X M0 w0 N M β γ σ a w) {l : Nat} {cs : List (D κ)} (hb : σ.bx l = some cs) : ∃ arr T, w.heap[β l]? = some (.cells arr T (0, 0)) ∧ RepC X.V M w cs arr := by
  obtain ⟨arr, T, h1, h2, h3, h4⟩ := h.bx l cs hb
  exact ⟨arr, T, h1, h2, h3, h4⟩

theorem partW_len {i : TyI} {off : Nat} {cs : List (D κ)} {K : D κ → Prop} (h : partW i off cs K) : off + i.size ≤ cs.length := Nat.le_of_ble_eq_true (condW_no h).1

theorem load_wp (h : Sim X M0 w0 N M β γ σ a w) {o : Oper} {K : St κ → Prop} {t : TypeId} {x : Operand} {l off : Nat} {cs : List (D κ)} (ho : o.op = .load t x) (ht : σ.tag x = some (.ptr l off)) (hb : σ.bx l = some cs) (hk : (X.T t).known = true)
    (hd : ∀ k, o.dst = some k → k < N) (hp : partW (X.T t) off cs fun d => K (σ.put o.dst d (match (X.T t).isAgg with | true => none | false => ownOnly (σ.tg (.c l off))))) : o.wp X.P a w (Post X M0 w0 N K) Q := by
  obtain ⟨arr, T, h1, h2⟩ := box_cells h hb
  have hp0 := ptr_at h ht hb
  have hne := TyI.known_ne hk
  have hlen := partW_len hp
  have hsz : 0 < (X.T t).size := (X.info hne).1
  have hget : ∀ j, j < cs.length → w.cell? ⟨β l, j, none⟩ = some (arr.getD j undef) := fun j hj => by
    rw [cell_of_row _ _ _ _ _ _ h1]
    have : j < arr.size := by rw [h2.n]; exact hj
    simp [Array.getD, this]
  have hg : Gives X M w (loadVar t ⟨β l, off, none⟩) (fun d => K (σ.put o.dst d (match (X.T t).isAgg with | true => none | false => ownOnly (σ.tg (.c l off))))) := by
    have := load_gives (X := X) (M := M) (w := w) (t := t) (b := β l) (o := 0) (n := cs.length) (f := fun j => cs.getD j .opq) (fun j => arr.getD j undef) hne (fun j hj => ⟨by rw [Nat.zero_add]; exact hget j hj, h2.o j hj⟩) (fun j hj => h2.r j _ (by simp [List.getD, List.getElem?_eq_getElem hj])) off cs ?_ hp
    · simpa using this
    · apply List.ext_getElem?
      intro j
      rw [List.getElem?_map]
      by_cases hj : j < cs.length
      · rw [List.getElem?_range hj]; simp [List.getD, List.getElem?_eq_getElem hj]
      · rw [List.getElem?_eq_none (by omega), List.getElem?_eq_none (by simp; omega)]; rfl
  obtain ⟨v, d, hv, hr, hK⟩ := hg
  have he : (execOp a.eval o).run X.P w = .ok (.value v) w := by
    simp [execOp, ho, hp0, Instr.loadAt, Instr.sureAddr, hv]
  refine wp_value he ⟨M, β, γ, _, h.put hd hr ?_ ?_, hK⟩
  · intro l' o' e
    split at e
    · cases e
    · exact absurd e ownOnly_ptr
  · intro g e e1
    split at e1
    · cases e1
    · rename_i hagg
      obtain ⟨y, hy, hy2⟩ := h.tc l off g e cs (ownOnly_own e1) hb
      have ha := X.isAgg hne w
      rw [hagg] at ha
      have hv2 : v = y := by
        have h3 := hv
        simp [loadVar, ha, run_load, hy] at h3
        exact h3.symm
      rw [hv2]
      exact hy2
end
end Go.Proofs.YtfbelaifhgnnlaaDoor
