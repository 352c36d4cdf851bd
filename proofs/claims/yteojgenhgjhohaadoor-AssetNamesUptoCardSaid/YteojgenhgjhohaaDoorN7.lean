/-
  What an operation does to a call's state, as data: the objects that it writes, the datum for its slot.
-/
import Derived.Test.YteojgenhgjhohaaDoorN6
namespace Go.Proofs.YteojgenhgjhohaaDoor
open Go.RowKit
set_option linter.unusedVariables false
set_option linter.unusedSimpArgs false

section
variable {κ : Type}
abbrev Ups (κ : Type) : Type := List (Nat × Ob κ × Bool)
def St.ups (σ : St κ) : Ups κ → St κ
  | [] => σ
  | p :: r => (σ.setOb p.1 p.2.1 p.2.2).ups r
abbrev Obs (κ : Type) : Type := Nat → Option (Ob κ × Bool)

def D.frz0 : D κ → Bool
  | .v _ => true
  | .sl _ _ _ _ => true
  | .rc _ => true
  | .ref _ _ => true
  | .fn _ [] => true
  | .ifc _ _ => true
  | .mfn _ _ => true
  | .und => true
  | _ => false
def D.frz : D κ → Bool
  | .agg cs => cs.all D.frz0
  | d => d.frz0
def D.frzT : D κ → Bool
  | .tup cs => cs.all D.frz
  | .fn _ cs => cs.all D.frz0
  | d => d.frz
def opDst (o : Oper) : List Nat := match o.dst with | some k => (match o.op with | .call _ => [k, 10000 + k, 20000 + k, 30000 + k] | _ => [k]) | none => []
def elemB (l : List Nat) (i : Nat) : Bool := match l with | [] => false | k :: r => match Nat.beq i k with | true => true | false => elemB r i
def nodupB : List Nat → Bool
  | [] => true
  | k :: r => !elemB r k && nodupB r
def Dle (X : Cx κ) (d e : D κ) : Prop := ∀ M w β x, Rep X.V M w β d x → Rep X.V M w β e x
theorem Dle.refl (X : Cx κ) (d : D κ) : Dle X d d := fun _ _ _ _ h => h
theorem Dle.of_eq {X : Cx κ} {d e : D κ} (h : d = e) : Dle X d e := h ▸ Dle.refl X d

def frzRW (X : Cx κ) (ob : Obs κ) (d : D κ) (K : Ups κ → D κ → Prop) : Prop :=
  match d with
  | .own l s o n => match ob l with
    | some (.row e m f, _) => condW (Nat.beq s (X.T e).size) (o + n ≤ m ∧ K [(l, .row e m f, true)] (.sl (X.T e).size (X.T e).bytes n (fun i j => f (i + o) j))) False
    | _ => False
  | d => K [] d
def frzRL (X : Cx κ) (ob : Obs κ) : List (D κ) → (Ups κ → List (D κ) → Prop) → Prop
  | [], K => K [] []
  | d :: r, K => frzRW X ob d fun us d => frzRL X ob r fun us' r => K (us ++ us') (d :: r)
def frz0W (X : Cx κ) (ob : Obs κ) (d : D κ) (K : Ups κ → D κ → Prop) : Prop :=
  match d with
  | .ptr l o => match ob l with
    | some (.cells cs, _) => frzRL X ob cs fun us cs => condW (cs.all D.frz0 && Nat.ble o cs.length) (fN (cs.length - o) fun n => K (us ++ [(l, .cells cs, true)]) (.ref n (fun j => cs.getD (o + j) .opq))) False
    | _ => False
  | d => frzRW X ob d K
def frzLW (X : Cx κ) (ob : Obs κ) : List (D κ) → (Ups κ → List (D κ) → Prop) → Prop
  | [], K => K [] []
  | d :: r, K => frz0W X ob d fun us d => frzLW X ob r fun us' r => K (us ++ us') (d :: r)
def frzW (X : Cx κ) (ob : Obs κ) (d : D κ) (K : Ups κ → D κ → Prop) : Prop :=
  match d with
  | .agg cs => frzLW X ob cs fun us cs => K us (.agg cs)
  | .fn f cs => frzLW X ob cs fun us cs => K us (.fn f cs)
  | d => frz0W X ob d K
def frzAW (X : Cx κ) (ob : Obs κ) : List (D κ) → (Ups κ → List (D κ) → Prop) → Prop
  | [], K => K [] []
  | d :: r, K => frzW X ob d fun us d => frzAW X ob r fun us' r => K (us ++ us') (d :: r)

/-! ## Calls to which objects are lent -/

def D.lab0 (q : Nat → Bool) : D κ → Bool
  | .ptr l _ => q l
  | .elt l _ _ _ => q l
  | .own l _ _ _ => q l
  | .mp l => q l
  | .ifo _ l _ _ => q l
  | .fn _ [] => true
  | .fn _ (_ :: _) => false
  | .agg _ => false
  | .tup _ => false
  | _ => true
def D.lab1 (q : Nat → Bool) : D κ → Bool
  | .agg cs => cs.all (D.lab0 q)
  | .fn _ cs => cs.all (D.lab0 q)
  | d => d.lab0 q
def D.labB (q : Nat → Bool) : D κ → Bool
  | .tup cs => cs.all (D.lab1 q)
  | .agg cs => cs.all (D.lab1 q)
  | .fn _ cs => cs.all (D.lab1 q)
  | d => d.lab0 q
def dle0 (X : Cx κ) (d e : D κ) : Prop :=
  match e with
  | .ptr l o => (match d with | .ptr l' o' => Nat.beq l' l = true ∧ Nat.beq o' o = true | _ => False)
  | .own l s o n => (match d with | .own l' s' o' n' => Nat.beq l' l = true ∧ Nat.beq s' s = true ∧ o' = o ∧ n' = n | _ => False)
  | .mp l => (match d with | .mp l' => Nat.beq l' l = true | _ => False)
  | .elt _ _ _ _ => False
  | .opq => True
  | e => e.frzT = true ∧ Dle X d e
def dle0L (X : Cx κ) : List (D κ) → List (D κ) → Prop
  | [], [] => True
  | d :: r, e :: s => dle0 X d e ∧ dle0L X r s
  | _, _ => False
def MLe (X : Cx κ) (es es' : List (Value × D κ)) : Prop := es.map (·.1) = es'.map (·.1) ∧ ∀ (i : Nat) (d d' : D κ), (es.map (·.2))[i]? = some d → (es'.map (·.2))[i]? = some d' → Dle X d d'
theorem MLe.refl (X : Cx κ) (es : List (Value × D κ)) : MLe X es es := ⟨rfl, fun i d d' h h' => by rw [h] at h'; injection h' with h'; exact Dle.of_eq h'⟩
theorem MLe.of_eq {X : Cx κ} {es es' : List (Value × D κ)} (h : es = es') : MLe X es es' := h ▸ MLe.refl X es
def hasW (X : Cx κ) (ob : Obs κ) : List (Nat × Ob κ) → Prop
  | [] => True
  | p :: r => (match ob p.1, p.2 with
      | some (.cells cs, false), .cells es => dle0L X cs es
      | some (.row e n f, false), .row e' n' f' => Nat.beq e e' = true ∧ n = n' ∧ ∀ i j, i < n → j < (X.T e).size → Dle X (f i j) (f' i j)
      | some (.map t es, false), .map t' es' => Nat.beq t t' = true ∧ MLe X es es'
      | _, _ => False) ∧ hasW X ob r
def names (H : List (Nat × Ob κ)) : List Nat := H.map (·.1)
def Ob.labB (q : Nat → Bool) : Ob κ → Bool
  | .cells cs => cs.all (D.lab1 q)
  | .row _ _ _ => true
  | .map _ _ => true
  | .iter m _ _ => q m
  | .dead => false
def isFree (ob : Obs κ) (l : Nat) : Bool := match ob l with | none => true | some _ => false
def lentB (new : List Nat) (ob : Obs κ) (H H' : List (Nat × Ob κ)) (d : D κ) : Bool :=
  nodupB (names H) && nodupB (names H') && (H'.all fun p => elemB (names H) p.1 || (elemB new p.1 && isFree ob p.1)) && d.labB (elemB (names H')) && (H'.all fun p => p.2.labB (elemB (names H')))
def lentU (H H' : List (Nat × Ob κ)) : Ups κ := (H.map fun p => (p.1, .dead, false)) ++ (H'.map fun p => (p.1, p.2, false))
def lentW (X : Cx κ) (new : List Nat) (ob : Obs κ) (f : FuncId) (ds : List (D κ)) (K : Ups κ → D κ → Prop) : Prop :=
  ∃ (H H' : List (Nat × Ob κ)) (d : D κ), SpL X f ds H d H' ∧ lentB new ob H H' d = true ∧ hasW X ob H ∧ fD d fun d => K (lentU H H') d

def srcW (X : Cx κ) (ob : Obs κ) (e : Nat) (d : D κ) (K : Nat → (Nat → Nat → D κ) → Prop) : Prop :=
  match d with
  | .own l s o n => match ob l with
    | some (.row e' m f, _) => condW (Nat.beq e' e && Nat.beq s (X.T e).size) (o + n ≤ m ∧ K n (fun i j => f (i + o) j)) False
    | _ => False
  | d => match d.asSl X.V (X.T e).size (X.T e).bytes with
    | some (sz, _, m, h) => condW (Nat.beq sz (X.T e).size) (K m h) False
    | none => False
def strOk (X : Cx κ) (t t' : TypeId) : Bool := Nat.beq t t' || (match (X.T t').k with | .str => true | _ => false)
def strD (t t' : TypeId) (d : D κ) : D κ :=
  match Nat.beq t t' with
  | true => d
  | false => match d with
    | .v (.string s) => .sl 1 1 s.size (fun i _ => .v (.int .u8 (bAt s i).toNat))
    | _ => .und
def appE (X : Cx κ) (ob : Obs κ) (t : TypeId) (ds dx : D κ) (k : Nat) (K : Ups κ → D κ → Prop) : Prop :=
  match (X.T t).k, ob k with
  | .sl e, none => condW (X.T e).known (match ds with
    | .v (.slice none 0 0) => srcW X ob e dx fun m h => fN (X.T e).bytes fun by_ => m * by_ ≤ 140737488355328 ∧ K [(k, .row e m h, false)] (.own k (X.T e).size 0 m)
    | .own g s 0 n => match ob g with
      | some (.row e' n' f, false) => condW (Nat.beq e' e && Nat.beq s (X.T e).size) (srcW X ob e dx fun m h => fN (X.T e).bytes fun by_ => (n ≤ n' ∧ (n + m) * by_ ≤ 140737488355328) ∧ K [(g, .dead, false), (k, .row e (n + m) (fun i j => if i < n then f i j else h (i - n) j), false)] (.own k (X.T e).size 0 (n + m))) False
      | _ => False
    | _ => False) False
  | _, _ => False
def sizeOf? (X : Cx κ) (fs : List (Nat × Nat)) (i : Nat) : Option (Nat × Nat) :=
  match fs[i]? with
  | some p => match (X.T p.1).known with | true => some (p.2, (X.T p.1).size) | false => none
  | none => none
def rowSet (f : Nat → Nat → D κ) (k j : Nat) (cs : List (D κ)) (i q : Nat) : D κ := if i = k ∧ j ≤ q ∧ q < j + cs.length then cs.getD (q - j) .opq else f i q

def mkS (n : Nat) (g : Nat → UInt8) : ByteArray := ⟨((List.range n).map g).toArray⟩
def isU8 : TyK → Bool
  | .int .u8 => true
  | _ => false
def Look (es : List (Value × D κ)) (k : Value) (z : D κ) (q : Bool × D κ) : Prop := (∃ p ∈ es, p.1 = k ∧ q = (true, p.2)) ∨ ((∀ p ∈ es, p.1 ≠ k) ∧ q = (false, z))
open Classical in
noncomputable def mset (es : List (Value × D κ)) (k : Value) (d : D κ) : List (Value × D κ) := if ∃ p ∈ es, p.1 = k then es.map (fun p => if p.1 = k then (k, d) else p) else es ++ [(k, d)]
def strL : List (D κ) → (List ByteArray → Prop) → Prop
  | [], K => K []
  | d :: r, K => fD d fun d => match d with | .v (.string s) => strL r fun l => K (s :: l) | _ => False
def keyW (kf : KF) (d : D κ) (K : Value → Prop) : Prop :=
  match kf with
  | .str => (match d with | .v (.string s) => K (.string s) | _ => False)
  | .int => (match d with | .v (.int .i64 n) => (-9223372036854775808 ≤ n ∧ n ≤ 9223372036854775807) ∧ K (.int .i64 n) | _ => False)
  | .arr n => (match d with | .agg cs => condW (Nat.beq cs.length n) (strL cs fun l => K (.agg (l.map .string).toArray)) False | _ => False)
def zeroD (i : TyI) : D κ := match i.isAgg with | true => .agg (i.zero.cells.toList.map .v) | false => .v i.zero
def GMap (X : Cx κ) (kf : KF) (b : Nat) (es : List (Value × D κ)) : Prop := (∀ p ∈ es, kf.ok p.1) ∧ (es.map (·.1)).Nodup ∧ ∀ w, X.G w → ∃ arr clk, w.heap[b]? = some (.map arr clk) ∧ arr.toList.map (·.key) = es.map (·.1) ∧ ∀ i d, (es.map (·.2))[i]? = some d → Rep X.V (fun _ _ => False) w b0 d (arr.getD i default).val
def lookW (X : Cx κ) (ob : Obs κ) (t : TypeId) (ok : Bool) (m k : D κ) (K : D κ → Prop) : Prop :=
  match (X.T t).k with
  | .map kf _ e => (match m with
    | .mp l => (match ob l with
      | some (.map t' es, false) => condW (Nat.beq t' t) (keyW kf k fun kv => ∃ q : Bool × D κ, Look es kv (zeroD (X.T e)) q ∧ fD q.2 fun d => match ok with | true => K (.tup [d, .v (.bool q.1)]) | false => K d) False
      | _ => False)
    | .v (.map (some b)) => ∃ es, GMap X kf b es ∧ condW (X.T e).known (keyW kf k fun kv => ∃ q : Bool × D κ, Look es kv (zeroD (X.T e)) q ∧ fD q.2 fun d => match ok with | true => K (.tup [d, .v (.bool q.1)]) | false => K d) False
    | _ => False)
  | _ => False
def mentW (X : Cx κ) (ob : Obs κ) (t : TypeId) (m k : D κ) (K : Ups κ → D κ → Prop) : Prop :=
  match (X.T t).k with
  | .map kf _ e => (match m with
    | .mp l => (match ob l with
      | some (.map t' es, false) => condW (Nat.beq t' t) (keyW kf k fun kv => (∃ (i : Nat) (p : Value × D κ), es[i]? = some p ∧ p.1 = kv ∧ K [(l, .map t es, false)] (.tup [p.2, .v (.int .i64 i)])) ∨
          ((∀ p ∈ es, p.1 ≠ kv) ∧ K [(l, .map t (es ++ [(kv, zeroD (X.T e))]), false)] (.tup [zeroD (X.T e), .v (.int .i64 es.length)]))) False
      | _ => False)
    | _ => False)
  | _ => False
noncomputable def can {α : Type} (l : List α) : List α := Classical.epsilon fun r => r.Perm l
theorem can_perm {α : Type} (l : List α) : (can l).Perm l := Classical.epsilon_spec (p := fun r : List α => r.Perm l) ⟨l, List.Perm.refl l⟩
theorem can_congr {α : Type} {l r : List α} (h : l.Perm r) : can l = can r := by
  unfold can
  have : (fun x : List α => x.Perm l) = fun x => x.Perm r := funext fun x => propext ⟨fun g => g.trans h, fun g => g.trans h.symm⟩
  rw [this]
structure CanW (P : Prop) : Prop where
  h : P
structure PrmW (P : Prop) : Prop where
  h : P
def permW (X : Cx κ) (ob : Obs κ) (f : FuncId) (ds : List (D κ)) (K : Ups κ → D κ → Prop) : Prop :=
  match ds with
  | [.mp l] => (match ob l with
    | some (.map t es, true) => ∃ (d : D κ) (es' : List (Value × D κ)), (∀ e0 : List (Value × D κ), e0.Perm es → ∃ e1 : List (Value × D κ), e1.Perm es' ∧ SpH X f [.mp l] [(l, .map t e0)] d [(l, .map t e1)]) ∧ condW (d.labB (elemB [l])) (fD d fun d => K [(l, .map t es', true)] d) False
    | _ => False)
  | _ => False
def estoW (X : Cx κ) (ob : Obs κ) (t : TypeId) (m st d : D κ) (K : Ups κ → Prop) : Prop :=
  match m, st with
  | .mp l, .v (.int .i64 n) => (match ob l with
    | some (.map t' es, false) => condW (Nat.beq t' t && d.good && d.frz) (∃ (i : Nat) (p : Value × D κ), n = i ∧ es[i]? = some p ∧ K [(l, .map t (es.set i (p.1, d)), false)]) False
    | _ => False)
  | _, _ => False
def msetW (X : Cx κ) (ob : Obs κ) (t : TypeId) (m k d : D κ) (K : Ups κ → Prop) : Prop :=
  match (X.T t).k with
  | .map kf _ _ => (match m with
    | .mp l => (match ob l with
      | some (.map t' es, false) => condW (Nat.beq t' t && d.good && d.frz) (keyW kf k fun kv => K [(l, .map t (mset es kv d), false)]) False
      | some (.map t' es, true) => condW (Nat.beq t' t && d.good && d.frz) (keyW kf k fun kv => K [(l, .map t (can (mset es kv d)), true), (l, .map t (can (mset es kv d)), true)]) False
      | _ => False)
    | _ => False)
  | _ => False
def labOut (m : D κ) (us : Ups κ) : Bool :=
  match m with
  | .mp l => us.all fun p => !(Nat.beq p.1 l)
  | _ => false
def insW (X : Cx κ) (ob : Obs κ) (t : TypeId) (m k d : D κ) (K : Ups κ → Prop) : Prop :=
  frzAW X ob [d] fun us ds => match ds with
    | [d] => condW (labOut m us) (msetW X ob t m k d fun us' => K (us ++ us')) False
    | _ => False
def IfoW (t : Nat) (d : D κ) (K : D κ → Prop) : Prop := match d with
  | .own l s 0 n => K (.ifo t l s n)
  | _ => False
theorem ifoW_spec {t : Nat} {d : D κ} {K : D κ → Prop} (h : IfoW t d K) : ∃ l s n, d = .own l s 0 n ∧ K (.ifo t l s n) := by
  unfold IfoW at h
  split at h
  · exact ⟨_, _, _, rfl, h⟩
  · exact h.elim
def opE (X : Cx κ) (o : Oper) (ev : Operand → D κ) (ob : Obs κ) (K : Ups κ → D κ → Prop) : Prop :=
  match o.op with
  | .move x => fD (ev x) fun d => K [] d
  | .assign x => fD (ev x) fun d => K [] d
  | .alloc e => match o.dst with
    | some l => match ob l with
      | none => condW (X.T e).known (fL ((X.T e).zero.cells.toList.map .v) fun cs => K [(l, .cells cs, false)] (.ptr l 0)) False
      | some _ => False
    | none => False
  | .box e x => match o.dst with
    | some l => match ob l with
      | none => fD (ev x) fun d => condW d.good (fL d.cells fun cs => K [(l, .cells cs, false)] (.ptr l 0)) False
      | some _ => False
    | none => False
  | .load t x => match ev x with
    | .ptr l off => match ob l with
      | some (.cells cs, _) => condW (X.T t).known (partW (X.T t) off cs fun d => K [] d) False
      | _ => False
    | .elt l s k j => match ob l with
      | some (.row e n f, _) => condW ((X.T t).known && Nat.beq s (X.T e).size) (k < n ∧ partW (X.T t) j ((List.range s).map (f k)) fun d => K [] d) False
      | _ => False
    | _ => pureW X o.op ev fun d => K [] d
  | .store t x y => match ev x with
    | .ptr l off => match ob l with
      | some (.cells cs, false) => fD (ev y) fun d => condW (d.good && Nat.beq d.cells.length (X.T t).size && (X.T t).known && Nat.ble (off + d.cells.length) cs.length) (fL (setCells cs off d.cells) fun cs' => K [(l, .cells cs', false)] .und) False
      | _ => False
    | .elt l s k j => match ob l with
      | some (.row e n f, false) => fD (ev y) fun d => condW (d.good && d.frz && Nat.beq d.cells.length (X.T t).size && (X.T t).known && Nat.beq s (X.T e).size && Nat.ble (j + d.cells.length) s) (k < n ∧ K [(l, .row e n (rowSet f k j d.cells), false)] .und) False
      | _ => False
    | _ => False
  | .build t parts => match (X.T t).k with
    | .struct fs => fillW (sizeOf? X fs) (parts.toList.map fun p => (p.1, ev p.2)) ((X.T t).zero.cells.toList.map .v) fun cs => K [] (.agg cs)
    | .arr _ e => condW (X.T e).known (fillW (fun i => some (i * (X.T e).size, (X.T e).size)) (parts.toList.map fun p => (p.1, ev p.2)) ((X.T t).zero.cells.toList.map .v) fun cs => K [] (.agg cs)) False
    | _ => False
  | .buildSlice t n parts => match (X.T t).k, o.dst with
    | .sl e, some l => match ob l with
      | none => condW ((X.T e).known && Nat.ble (n * (X.T e).size) 16777216 && Nat.ble (n * (X.T e).bytes) 140737488355328)
        (fillW (fun i => some (i * (X.T e).size, (X.T e).size)) (parts.toList.map fun p => (p.1, ev p.2)) ((List.replicate n ((X.T e).zero.cells.toList.map .v)).flatten) fun cs =>
          condW (cs.all D.frz0) (K [(l, .row e n (fun i j => cs.getD (i * (X.T e).size + j) .opq), false)] (.own l (X.T e).size 0 n)) False) False
      | some _ => False
    | _, _ => False
  | .makeSlice t len cap => match (X.T t).k, o.dst, ev len, ev cap with
    | .sl e, some l, .v (.int .i64 n), .v (.int .i64 c) => match ob l with
      | none => condW (X.T e).known (fN (X.T e).bytes fun by_ => (0 ≤ n ∧ c = n ∧ n * by_ ≤ 140737488355328) ∧ K [(l, .row e n.toNat (fun _ j => .v ((X.T e).zero.cells.getD j undef)), false)] (.own l (X.T e).size 0 n.toNat)) False
      | some _ => False
    | _, _, _, _ => False
  | .call c => match c.callee with
    | .value x => match ev x with
      | .fn f cs => fL (c.args.toList.map ev ++ cs) fun ds => ((frzAW X ob ds fun us ds => ∃ d, Sp X f ds d ∧ fD d fun d => condW d.frzT (K us d) False) ∨ PrmW (permW X ob f ds K)) ∨ lentW X (opDst o) ob f ds K
      | .mfn f fs => fL (fs ++ c.args.toList.map ev) fun ds => (frzAW X ob ds fun us ds => ∃ d, Sp X f ds d ∧ fD d fun d => condW d.frzT (K us d) False) ∨ False
      | _ => False
    | .builtin .append => match c.args.toList, c.argTypes.toList, o.dst with
      | [s, x], [t, t'], some k => condW (strOk X t t') (fD (ev s) fun ds => fD (strD t t' (ev x)) fun dx => appE X ob t ds dx k K) False
      | _, _, _ => False
    | _ => pureW X o.op ev fun d => K [] d
  | .convert s t x => match (X.T s).k, (X.T t).k with
    | .sl e, .str => condW ((X.T e).known && isU8 (X.T e).k && Nat.beq (X.T e).size 1) (srcW X ob e (ev x) fun m h => ∃ g : Nat → UInt8, (∀ i, i < m → Dle X (h i 0) (.v (.int .u8 (g i).toNat))) ∧ K [] (.v (.string (mkS m g)))) False
    | _, _ => pureW X o.op ev fun d => K [] d
  | .makeInterface t x => (match (X.T t).k with
    | .other => False
    | .ifc => False
    | .sl _ => (frzAW X ob [ev x] fun us ds => match ds with
      | [d] => condW (d.good && d.frz) (K us (.ifc t d)) False
      | _ => False) ∨ IfoW t (ev x) (K [])
    | _ => frzAW X ob [ev x] fun us ds => match ds with
      | [d] => condW (d.good && d.frz) (K us (.ifc t d)) False
      | _ => False)
  | .makeFunc fn first caps => (match fn, first.toList, caps.toList with
    | .func f, x :: r, [] => frzAW X ob ((x :: r).map ev) fun us ds => condW (ds.all D.frz) (K us (.mfn f ds)) False
    | _, _, _ => pureW X o.op ev fun d => K [] d)
  | .makeMap t r => (match (X.T t).k, o.dst, r with
    | .map _ _ e, some l, none => (match ob l with
      | none => condW (X.T e).known (K [(l, .map t [], false)] (.mp l) ∨ CanW (K [(l, .map t [], true)] (.mp l))) False
      | some _ => False)
    | _, _, _ => False)
  | .insert t m k x => fD (ev x) fun d => insW X ob t (ev m) (ev k) d fun us => K us .und
  | .mapUpdate t m k x => fD (ev x) fun d => insW X ob t (ev m) (ev k) d fun us => K us .und
  | .lookup t m k ok => lookW X ob t ok (ev m) (ev k) fun d => K [] d
  | .mapEntry t m k => mentW X ob t (ev m) (ev k) K
  | .entryStore t m s x => fD (ev x) fun d => estoW X ob t (ev m) (ev s) d fun us => K us .und
  | _ => pureW X o.op ev fun d => K [] d
def opW (X : Cx κ) (o : Oper) (σ : St κ) (K : St κ → Prop) : Prop := opE X o σ.ev σ.ob fun us d => K ((σ.ups us).put o.dst d)

def Post (X : Cx κ) (M0 : Nat → Nat → Prop) (S0 : Ln) (w0 : World) (N : Nat) (K : St κ → Prop) (a : Act) (w : World) : Prop := ∃ M β σ, Sim X M0 S0 w0 N M β σ a w ∧ K σ

variable {X : Cx κ} {M0 M : Nat → Nat → Prop} {S0 : Ln} {w0 w : World} {N : Nat} {β : Bt} {σ : St κ} {a : Act} {Q : Exit → Act → World → Prop}

theorem wp_value {o : Oper} {x : Value} {w' : World} {next : Act → World → Prop} (h : (execOp a.eval o).run X.P w = .ok (.value x) w') (hn : next (a.put o.dst x) w') : o.wp X.P a w next Q := by
  unfold Oper.wp
  rw [h]
  exact hn

theorem pure_wp (h : Sim X M0 S0 w0 N M β σ a w) {o : Oper} {K : St κ → Prop} (hd : ∀ k, o.dst = some k → k < N) (hp : pureW X o.op σ.ev fun d => K (σ.put o.dst d)) : o.wp X.P a w (Post X M0 S0 w0 N K) Q := by
  obtain ⟨x, d, hx, hr, hK⟩ := pure_gives o a.eval σ.ev h.ev _ hp
  exact wp_value hx ⟨M, β, _, h.put hd hr, hK⟩
theorem move_wp (h : Sim X M0 S0 w0 N M β σ a w) {o : Oper} {K : St κ → Prop} {x : Operand} (ho : o.op = .move x ∨ o.op = .assign x) (hd : ∀ k, o.dst = some k → k < N) (hK : K (σ.put o.dst (σ.ev x))) : o.wp X.P a w (Post X M0 S0 w0 N K) Q := by
  have he : (execOp a.eval o).run X.P w = .ok (.value (a.eval x)) w := by
    rcases ho with ho | ho <;> simp [execOp, ho]
  exact wp_value he ⟨M, β, _, h.put hd (h.ev x), hK⟩
theorem ptr_at (h : Sim X M0 S0 w0 N M β σ a w) {x : Operand} {l off : Nat} (hx : σ.ev x = .ptr l off) : ∃ b c, β l = some (some (b, c)) ∧ a.eval x = .pointer (some ⟨b, off, none⟩) := by
  have hr := h.ev x
  rw [hx] at hr
  generalize a.eval x = v at hr
  cases hr with
  | ptr hb => exact ⟨_, _, hb, rfl⟩
theorem elt_at (h : Sim X M0 S0 w0 N M β σ a w) {x : Operand} {l s k j : Nat} (hx : σ.ev x = .elt l s k j) : ∃ b c, β l = some (some (b, c)) ∧ a.eval x = .pointer (some ⟨b, k * s + j, none⟩) := by
  have hr := h.ev x
  rw [hx] at hr
  generalize a.eval x = v at hr
  cases hr with
  | elt hb => exact ⟨_, _, hb, rfl⟩
theorem cells_at (h : Sim X M0 S0 w0 N M β σ a w) {l b c : Nat} {cs : List (D κ)} {z : Bool} (hl : σ.ob l = some (.cells cs, z)) (hb : β l = some (some (b, c))) : ∃ arr T, w.heap[b]? = some (.cells arr T (0, 0)) ∧ RepC X.V M w β cs arr := by
  obtain ⟨b', c', arr, T, h1, h2, h3, _⟩ := h.ob l _ z hl
  rw [hb] at h1
  injection h1 with h1
  injection h1 with h1
  injection h1 with h1 _
  subst h1
  exact ⟨arr, T, h2, h3⟩
theorem row_at (h : Sim X M0 S0 w0 N M β σ a w) {l b c e n : Nat} {f : Nat → Nat → D κ} {z : Bool} (hl : σ.ob l = some (.row e n f, z)) (hb : β l = some (some (b, c))) : (X.T e).known = true ∧ ∃ arr, w.heap[b]? = some (.cells arr e (0, 0)) ∧ arr.size = c * (X.T e).size ∧ n ≤ c ∧ c ≤ maxLen ∧ n * (X.T e).bytes ≤ 140737488355328 ∧
    ∀ i j, i < n → j < (X.T e).size → (arr.getD (i * (X.T e).size + j) undef).oneCell' = true ∧ Rep X.V M w b0 (f i j) (arr.getD (i * (X.T e).size + j) undef) := by
  obtain ⟨hk, h1⟩ := h.ob l _ z hl
  refine ⟨hk, ?_⟩
  rcases h1 with ⟨h1, _⟩ | ⟨b', c', arr, h1, h2, h3, h4, h5, h6, h7, _⟩
  · rw [hb] at h1; cases h1
  · rw [hb] at h1
    injection h1 with h1
    injection h1 with h1
    injection h1 with h1 h1'
    subst h1 h1'
    exact ⟨arr, h2, h3, h4, h5, h6, h7⟩
theorem partW_len {i : TyI} {off : Nat} {cs : List (D κ)} {K : D κ → Prop} (h : partW i off cs K) : off + i.size ≤ cs.length := Nat.le_of_ble_eq_true (condW_no h).1
theorem loadPtr_wp (h : Sim X M0 S0 w0 N M β σ a w) {o : Oper} {K : St κ → Prop} {t : TypeId} {x : Operand} {l off : Nat} {cs : List (D κ)} {z : Bool} (ho : o.op = .load t x) (hx : σ.ev x = .ptr l off) (hl : σ.ob l = some (.cells cs, z)) (hk : (X.T t).known = true)
    (hd : ∀ k, o.dst = some k → k < N) (hp : partW (X.T t) off cs fun d => K (σ.put o.dst d)) : o.wp X.P a w (Post X M0 S0 w0 N K) Q := by
  obtain ⟨b, c, hb, hv⟩ := ptr_at h hx
  obtain ⟨arr, T, hA, hR⟩ := cells_at h hl hb
  have hlen := partW_len hp
  have hu : ∀ j, j < cs.length → w.cell? ⟨b, 0 + j, none⟩ = some (arr.getD j undef) ∧ (arr.getD j undef).oneCell' = true := fun j hj => by
    refine ⟨?_, hR.o j hj⟩
    rw [Nat.zero_add, cell_of_row _ _ _ _ _ _ hA]
    have : j < arr.size := by rw [hR.n]; exact hj
    simp [Array.getD, this]
  have hcs : cs = (List.range cs.length).map (fun j => cs.getD j .opq) := by
    apply List.ext_getElem
    · simp
    · intro i h1 h2
      simp [List.getD, h1]
  obtain ⟨v, d, hv1, hr, hK⟩ := load_gives (X := X) (M := M) (w := w) (β := β) (t := t) (b := b) (o := 0) (n := cs.length) (f := fun j => cs.getD j .opq) (fun j => arr.getD j undef) (TyI.known_ne hk) hu (fun j hj => hR.r j _ (by simp [List.getD, List.getElem?_eq_getElem hj])) off cs hcs hp
  rw [Nat.zero_add] at hv1
  have he : (execOp a.eval o).run X.P w = .ok (.value v) w := by
    simp [execOp, ho, hv, Instr.loadAt, Instr.sureAddr, hv1]
  exact wp_value he ⟨M, β, _, h.put hd hr, hK⟩
theorem loadElt_wp (h : Sim X M0 S0 w0 N M β σ a w) {o : Oper} {K : St κ → Prop} {t : TypeId} {x : Operand} {l s k j e n : Nat} {f : Nat → Nat → D κ} {z : Bool} (ho : o.op = .load t x) (hx : σ.ev x = .elt l s k j) (hl : σ.ob l = some (.row e n f, z)) (hk : (X.T t).known = true) (hs : s = (X.T e).size) (hkn : k < n)
    (hd : ∀ k, o.dst = some k → k < N) (hp : partW (X.T t) j ((List.range s).map (f k)) fun d => K (σ.put o.dst d)) : o.wp X.P a w (Post X M0 S0 w0 N K) Q := by
  subst hs
  obtain ⟨b, c, hb, hv⟩ := elt_at h hx
  obtain ⟨_, arr, hA, hsz, hnc, _, _, hR⟩ := row_at h hl hb
  have hu : ∀ q, q < (X.T e).size → w.cell? ⟨b, k * (X.T e).size + q, none⟩ = some (arr.getD (k * (X.T e).size + q) undef) ∧ (arr.getD (k * (X.T e).size + q) undef).oneCell' = true := fun q hq => by
    refine ⟨?_, (hR k q hkn hq).1⟩
    rw [cell_of_row _ _ _ _ _ _ hA]
    have h1 : (k + 1) * (X.T e).size ≤ c * (X.T e).size := Nat.mul_le_mul_right _ (by omega)
    rw [Nat.succ_mul] at h1
    have : k * (X.T e).size + q < arr.size := by omega
    simp [Array.getD, this]
  obtain ⟨v, d, hv1, hr, hK⟩ := load_gives (X := X) (M := M) (w := w) (β := β) (t := t) (b := b) (o := k * (X.T e).size) (n := (X.T e).size) (f := f k) (fun q => arr.getD (k * (X.T e).size + q) undef) (TyI.known_ne hk) hu (fun q hq => (hR k q hkn hq).2.of_b0) j _ rfl hp
  have he : (execOp a.eval o).run X.P w = .ok (.value v) w := by
    simp [execOp, ho, hv, Instr.loadAt, Instr.sureAddr, hv1]
  exact wp_value he ⟨M, β, _, h.put hd hr, hK⟩
end
end Go.Proofs.YteojgenhgjhohaaDoor
