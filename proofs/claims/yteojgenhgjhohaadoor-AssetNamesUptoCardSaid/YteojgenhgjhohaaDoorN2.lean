/-
  Operations that only compute or read, over any program: what each gives on data, and that it gives it.
-/
import Derived.Test.YteojgenhgjhohaaDoorN1
import Derived.Laws.Strings
import Derived.Laws.Entries
import Derived.ChangeKeysEq
import Derived.Deep.MidRow
namespace Go.Proofs.YteojgenhgjhohaaDoor
open Go.RowKit
set_option linter.unusedVariables false
set_option linter.unusedSimpArgs false

def bAt (s : ByteArray) (k : Nat) : UInt8 := s.data.toList.getD k 0
def strLt (a b : ByteArray) : Bool := Op.bytesLess a.toList b.toList

section
variable {κ : Type}

def In64K (n : Int) (K : D κ → Prop) : Prop := (-9223372036854775808 ≤ n ∧ n ≤ 9223372036854775807) ∧ K (.v (.int .i64 n))
def arithW (k : IntKind) (n : Int) (K : D κ → Prop) : Prop :=
  match k with
  | .i64 => In64K n K
  | k => K (.v (.int k (k.wrap n)))
def shiftW (op : BinOp) (k : IntKind) (a b : Int) (K : D κ → Prop) : Prop :=
  match op with
  | .shl => 0 ≤ b ∧ K (.v (.int k (k.wrap (a * 2 ^ min b.toNat k.bits))))
  | .shr => 0 ≤ b ∧ K (.v (.int k (a.fdiv (2 ^ min b.toNat k.bits))))
  | _ => False
def intW (op : BinOp) (k : IntKind) (a b : Int) (K : D κ → Prop) : Prop :=
  match op with
  | .add => arithW k (a + b) K
  | .sub => arithW k (a - b) K
  | .mul => arithW k (a * b) K
  | .quo => (0 ≤ a ∧ 0 < b ∧ arithW k (a / b) K) ∨ (b ≠ 0 ∧ arithW k (a.tdiv b) K)
  | .rem => (0 ≤ a ∧ 0 < b ∧ K (.v (.int k (a % b)))) ∨ (b ≠ 0 ∧ K (.v (.int k (a.tmod b))))
  | .and => K (.v (.int k (k.wrap (BitVec.ofInt k.bits a &&& BitVec.ofInt k.bits b).toNat)))
  | .or => K (.v (.int k (k.wrap (BitVec.ofInt k.bits a ||| BitVec.ofInt k.bits b).toNat)))
  | .xor => K (.v (.int k (k.wrap (BitVec.ofInt k.bits a ^^^ BitVec.ofInt k.bits b).toNat)))
  | .eql => K (.v (.bool (decide (a = b))))
  | .neq => K (.v (.bool (!decide (a = b))))
  | .lss => K (.v (.bool (decide (a < b))))
  | .gtr => K (.v (.bool (decide (b < a))))
  | .leq => K (.v (.bool (decide (a ≤ b))))
  | .geq => K (.v (.bool (decide (b ≤ a))))
  | _ => False
def isShift : BinOp → Bool
  | .shl => true
  | .shr => true
  | _ => false
def nbW (op : BinOp) (n : Nat) (K : D κ → Prop) : Prop :=
  match op with
  | .eql => K (.nb true n)
  | .neq => K (.nb false n)
  | _ => False
def cmpW (op : BinOp) (b : Bool) (K : D κ → Prop) : Prop :=
  match op with
  | .eql => K (.v (.bool b))
  | .neq => K (.v (.bool (!b)))
  | _ => False
def nilW (X : Cx κ) (k : TyK) (c : Bool) (op : BinOp) (x y : D κ) (K : D κ → Prop) : Prop :=
  match k, y with
  | .sl e, .v (.slice none 0 0) => (match x with
    | .v (.slice none 0 0) => cmpW op true K
    | .own _ _ _ n => nbW op n K
    | d => match d.asSl X.V (X.T e).size (X.T e).bytes with
      | some (_, _, n, _) => nbW op n K
      | none => False)
  | .ptr, .v (.pointer none) => (match x with
    | .v (.pointer none) => cmpW op true K
    | .ptr _ _ => cmpW op false K
    | .elt _ _ _ _ => cmpW op false K
    | .ref _ _ => cmpW op false K
    | _ => False)
  | .map _ _ _, .v (.map none) => (match x with
    | .v (.map none) => cmpW op true K
    | .mp _ => cmpW op false K
    | _ => False)
  | .ifc, .v .nilIface => (match x with
    | .v .nilIface => condW c (cmpW op true K) False
    | .ifc _ _ => cmpW op false K
    | _ => False)
  | _, _ => False
def TyK.isBool : TyK → Bool
  | .bool => true
  | _ => false
def primB : TyK → Value → Bool
  | .int k, .int k' _ => decide (k = k')
  | .str, .string _ => true
  | .bool, .bool _ => true
  | _, _ => false
def valEq : Value → Value → Bool
  | .int _ a, .int _ b => decide (a = b)
  | .string a, .string b => decide (a = b)
  | .bool a, .bool b => a == b
  | _, _ => false
def aggW (X : Cx κ) : List (Nat × Nat) → Nat → List (D κ) → List (D κ) → (Bool → Prop) → Prop
  | [], _, [], [], K => K true
  | p :: r, i, c :: cs, d :: ds, K => fD c fun c => fD d fun d => match c, d with
    | .v x, .v y => condW (Nat.beq p.2 i && primB (X.T p.1).k x && primB (X.T p.1).k y) (aggW X r (i + 1) cs ds fun b => K (valEq x y && b)) False
    | _, _ => False
  | _, _, _, _, _ => False
def eqW (X : Cx κ) (t : TypeId) (tk : TyK) (op : BinOp) (cs ds : List (D κ)) (K : D κ → Prop) : Prop :=
  match tk with
  | .struct fs => condW (X.se t) (aggW X fs 0 cs ds fun b => cmpW op b K) False
  | _ => False
def binW (X : Cx κ) (t : TypeId) (tk : TyK) (c : Bool) (op : BinOp) (x y : D κ) (K : D κ → Prop) : Prop :=
  match x, y with
  | .v (.int k a), .v (.int k' b) => match isShift op with
    | true => shiftW op k a b K
    | false => condW (decide (k = k')) (intW op k a b K) False
  | .v (.string a), .v (.string b) =>
    match op with
    | .add => a.size + b.size ≤ 9223372036854775807 ∧ K (.v (.string (a ++ b)))
    | .eql => K (.v (.bool (decide (a = b))))
    | .neq => K (.v (.bool (!decide (a = b))))
    | .lss => K (.v (.bool (strLt a b)))
    | .leq => K (.v (.bool (strLt a b || decide (a = b))))
    | .gtr => K (.v (.bool (!(strLt a b || decide (a = b)))))
    | .geq => K (.v (.bool (!strLt a b)))
    | _ => False
  | .v (.bool a), .v (.bool b) =>
    match op with
    | .eql => condW tk.isBool (K (.v (.bool (a == b)))) False
    | .neq => condW tk.isBool (K (.v (.bool (!(a == b))))) False
    | _ => False
  | .agg cs, .agg ds => eqW X t tk op cs ds K
  | x, y => nilW X tk c op x y K

def partW (i : TyI) (off : Nat) (cs : List (D κ)) (K : D κ → Prop) : Prop :=
  condW (Nat.ble (off + i.size) cs.length) (match i.isAgg with
    | true => fL ((cs.drop off).take i.size) fun cs => K (.agg cs)
    | false => fD (cs.getD off .opq) K) False

def convW (X : Cx κ) (src dst : TypeId) (x : D κ) (K : D κ → Prop) : Prop :=
  match (X.T src).k, (X.T dst).k, x with
  | .int .u64, .int .i64, .v (.int _ n) => K (.v (.int .i64 (IntKind.i64.wrap n)))
  | .int _, .int .i64, .v (.int _ n) => In64K n K
  | .int _, .int k, .v (.int _ n) => K (.v (.int k (k.wrap n)))
  | .str, .str, .v (.string s) => K (.v (.string s))
  | .int _, .str, .v (.int _ n) => K (.v (.string (Utf8.encode n)))
  | _, _, _ => False

def boundsW (lo hi : Option (D κ)) (n : Nat) (K : Nat → Nat → Prop) : Prop :=
  match lo.getD (.v (.int .i64 0)), hi.getD (.v (.int .i64 n)) with
  | .v (.int _ a), .v (.int _ b) => (0 ≤ a ∧ a ≤ b ∧ b ≤ n) ∧ K a.toNat b.toNat
  | _, _ => False

def sliceW (X : Cx κ) (t : TypeId) (x : D κ) (lo hi : Option (D κ)) (K : D κ → Prop) : Prop :=
  match (X.T t).k, x with
  | .str, .v (.string s) => boundsW lo hi s.size fun a b => K (.v (.string (s.extract a b)))
  | .sl e, .own l s o n => condW (Nat.beq s (X.T e).size && (X.T e).known) (boundsW lo hi n fun a b => K (.own l s (o + a) (b - a))) False
  | .sl e, d => match d.asSl X.V (X.T e).size (X.T e).bytes with
    | some (sz, by_, n, f) => condW (Nat.beq sz (X.T e).size && (X.T e).known) (boundsW lo hi n fun a b => K (.sl sz by_ (b - a) (fun i => f (i + a)))) False
    | none => False
  | _, _ => False

def lenW (X : Cx κ) (t : TypeId) (x : D κ) (K : D κ → Prop) : Prop :=
  match (X.T t).k, x with
  | .str, .v (.string s) => facW (s.size ≤ 9223372036854775807) (K (.v (.int .i64 s.size)))
  | .sl e, .own _ _ _ n => facW (n ≤ 9223372036854775807) (K (.v (.int .i64 n)))
  | .sl e, d => match d.asSl X.V (X.T e).size (X.T e).bytes with
    | some (_, by_, n, _) => facW (n * by_ ≤ 140737488355328 ∧ n ≤ 9223372036854775807) (K (.v (.int .i64 n)))
    | none => False
  | _, _ => False
def mmW (mm : Int → Int → Int) (x y : D κ) (K : D κ → Prop) : Prop :=
  match x, y with
  | .v (.int k a), .v (.int _ b) => K (.v (.int k (mm a b)))
  | _, _ => False
def builtinW (X : Cx κ) (b : Builtin) (ts : List TypeId) (xs : List (D κ)) (K : D κ → Prop) : Prop :=
  match b, ts, xs with
  | .len, [t], [x] => lenW X t x K
  | .max, _, [x, y] => mmW max x y K
  | .min, _, [x, y] => mmW min x y K
  | _, _, _ => False

def constB : Operand → Bool
  | .const _ => true
  | _ => false
def zeroW (i : TyI) (K : D κ → Prop) : Prop :=
  match i.isAgg with
  | true => fL (i.zero.cells.toList.map .v) fun cs => K (.agg cs)
  | false => K (.v i.zero)
def asrtW (X : Cx κ) (t : TypeId) (ok : Bool) (x : D κ) (K : D κ → Prop) : Prop :=
  match (X.T t).k with
  | .other => False
  | .ifc => False
  | _ => match x with
    | .ifc u d => condW (Nat.beq u t) (fD d fun d => match ok with | true => K (.tup [d, .v (.bool true)]) | false => K d) (match ok with | true => zeroW (X.T t) fun z => K (.tup [z, .v (.bool false)]) | false => False)
    | .v .nilIface => (match ok with | true => zeroW (X.T t) fun z => K (.tup [z, .v (.bool false)]) | false => False)
    | _ => False

def pureW (X : Cx κ) (op : Op) (ev : Operand → D κ) (K : D κ → Prop) : Prop :=
  match op with
  | .pick c a b => match ev c with | .v (.bool t) => condW t (fD (ev a) K) (fD (ev b) K) | _ => False
  | .binOp op t x y _ => binW X t (X.T t).k (constB x || constB y) op (ev x) (ev y) K
  | .unOp .not _ x => match ev x with | .v (.bool b) => K (.v (.bool (!b))) | _ => False
  | .unOp .neg _ x => match ev x with | .v (.int k n) => arithW k (-n) K | _ => False
  | .extract x i => match ev x with | .tup ds => condW (Nat.blt i ds.length) (fD (ds.getD i .opq) K) False | _ => False
  | .call c => match c.callee with
    | .builtin b => builtinW X b c.argTypes.toList (c.args.toList.map ev) K
    | _ => False
  | .index t x i => match (X.T t).k, ev x, ev i with
    | .str, .v (.string s), .v (.int _ n) => (0 ≤ n ∧ n < s.size) ∧ K (.v (.int .u8 (bAt s n.toNat).toNat))
    | .arr m e, .agg cs, .v (.int _ n) => condW (X.T e).known ((0 ≤ n ∧ n < m) ∧ partW (X.T e) (n.toNat * (X.T e).size) cs K) False
    | _, _, _ => False
  | .indexAddr t x i => match (X.T t).k with
    | .sl e => match ev x, ev i with
      | .own l s o n, .v (.int _ k) => condW (Nat.beq s (X.T e).size && (X.T e).known) ((0 ≤ k ∧ k < n) ∧ K (.elt l s (o + k.toNat) 0)) False
      | d, .v (.int _ k) => match d.asSl X.V (X.T e).size (X.T e).bytes with
        | some (sz, _, n, f) => condW (Nat.beq sz (X.T e).size && (X.T e).known) ((0 ≤ k ∧ k < n) ∧ K (.ref sz (f k.toNat))) False
        | none => False
      | _, _ => False
    | .arr n e => match ev x, ev i with
      | .ptr l o, .v (.int _ k) => condW (X.T e).known ((0 ≤ k ∧ k < n) ∧ K (.ptr l (o + k.toNat * (X.T e).size))) False
      | .ref m f, .v (.int _ k) => condW ((X.T e).known && Nat.ble (n * (X.T e).size) m) ((0 ≤ k ∧ k < n) ∧ K (.ref (X.T e).size (fun j => f (k.toNat * (X.T e).size + j)))) False
      | _, _ => False
    | _ => False
  | .fieldAddr t x i => match (X.T t).k, ev x with
    | .struct fs, .ref n f => match fs[i]? with
      | some p => fN p.2 fun off => K (.ref (n - off) (fun j => f (off + j)))
      | none => False
    | .struct fs, .ptr l o => match fs[i]? with
      | some p => fN (o + p.2) fun o' => K (.ptr l o')
      | none => False
    | .struct fs, .elt l s k j => match fs[i]? with
      | some p => fN (j + p.2) fun j' => K (.elt l s k j')
      | none => False
    | _, _ => False
  | .load t x => match ev x with
    | .ref n f => match (X.T t).k with
      | .other => False
      | _ => partW (X.T t) 0 ((List.range n).map f) K
    | _ => False
  | .field t x i => match (X.T t).k, ev x with
    | .struct fs, .agg cs => match fs[i]? with
      | some p => match (X.T p.1).k with
        | .other => False
        | _ => partW (X.T p.1) p.2 cs K
      | none => False
    | _, _ => False
  | .convert s d x => convW X s d (ev x) K
  | .slice t x lo hi none => sliceW X t (ev x) (lo.map ev) (hi.map ev) K
  | .nilCheck x => match ev x with
    | .ref n f => K (.ref n f)
    | .ptr l o => K (.ptr l o)
    | .elt l s k j => K (.elt l s k j)
    | _ => False
  | .typeAssert x _ t ok => asrtW X t ok (ev x) K
  | .makeFunc fn first caps => match fn, first.toList with
    | .func f, [] => fL (caps.toList.map ev) fun cs => K (.fn f cs)
    | _, _ => False
  | _ => False

/-! ## They give it -/

theorem vrun {P : Program} {w w' : World} {s : Sem Value} {x : Value} (h : s.run P w = .ok x w') : (do pure (Next.value (← s)) : Sem Next).run P w = .ok (.value x) w' := by
  simp [h]

variable {X : Cx κ} {M : Nat → Nat → Prop} {w : World} {β : Bt}

def Gives (X : Cx κ) (M : Nat → Nat → Prop) (w : World) (β : Bt) (s : Sem Value) (K : D κ → Prop) : Prop := ∃ x d, s.run X.P w = .ok x w ∧ Rep X.V M w β d x ∧ K d

theorem gives_v {s : Sem Value} {K : D κ → Prop} {x : Value} (hx : okB x = true) (h : s.run X.P w = .ok x w) (hk : K (.v x)) : Gives X M w β s K := ⟨x, _, h, .v hx, hk⟩

theorem arith_gives {k : IntKind} {n : Int} {K : D κ → Prop} {s : Sem Value} (h : arithW k n K) (hs : s.run X.P w = .ok (.int k (k.wrap n)) w) : Gives X M w β s K := by
  cases k
  case i64 =>
    obtain ⟨h1, h2⟩ := h
    refine ⟨_, _, hs, .v rfl, ?_⟩
    have e : IntKind.i64.wrap n = n := IntWalk.i64_in n h1
    rw [e]
    exact h2
  all_goals exact ⟨_, _, hs, .v rfl, h⟩

theorem toList_inj {a b : ByteArray} (h : a.toList = b.toList) : a = b := by
  have h1 : a.data.toList = b.data.toList := by rw [← ByteArray.toList_eq, ← ByteArray.toList_eq]; exact h
  cases a; cases b
  simp only [ByteArray.mk.injEq]
  exact Array.toList_inj.1 h1
theorem str_eq (a b : ByteArray) : (a.toList == b.toList) = decide (a = b) := by
  by_cases h : a = b
  · subst h; simp
  · rw [decide_eq_false h]
    exact beq_eq_false_iff_ne.2 (fun e => h (toList_inj e))

theorem shift_gives {op : BinOp} {t : TypeId} {xo yo : Operand} {k k' : IntKind} {a b : Int} {K : D κ → Prop} (h : shiftW op k a b K) : Gives X M w β (do eqGuard op t xo yo (.int k a) (.int k' b); binOp op t (.int k a) (.int k' b)) K := by
  unfold shiftW at h
  split at h
  · obtain ⟨h0, h1⟩ := h
    refine gives_v rfl ?_ h1
    have : ¬ b < 0 := by omega
    simp [eqGuard, binOp, Op.shift, this]
  · obtain ⟨h0, h1⟩ := h
    refine gives_v rfl ?_ h1
    have : ¬ b < 0 := by omega
    simp [eqGuard, binOp, Op.shift, this]
  · exact h.elim
theorem int_gives {op : BinOp} {t : TypeId} {xo yo : Operand} {k : IntKind} {a b : Int} {K : D κ → Prop} (hs : isShift op = false) (h : intW op k a b K) : Gives X M w β (do eqGuard op t xo yo (.int k a) (.int k b); binOp op t (.int k a) (.int k b)) K := by
  cases op <;> simp only [isShift, Bool.true_eq_false] at hs <;> simp only [intW] at h
  case add => exact arith_gives h (by simp [eqGuard, binOp, Op.intArith])
  case sub => exact arith_gives h (by simp [eqGuard, binOp, Op.intArith])
  case mul => exact arith_gives h (by simp [eqGuard, binOp, Op.intArith])
  case quo =>
    rcases h with ⟨h0, h1, h2⟩ | ⟨h1, h2⟩
    · have hb0 : b ≠ 0 := by omega
      rw [← Int.tdiv_eq_ediv_of_nonneg h0] at h2
      exact arith_gives h2 (by simp [eqGuard, binOp, Op.intDiv, hb0])
    · exact arith_gives h2 (by simp [eqGuard, binOp, Op.intDiv, h1])
  case rem =>
    rcases h with ⟨h0, h1, h2⟩ | ⟨h1, h2⟩
    · have hb0 : b ≠ 0 := by omega
      rw [← Int.tmod_eq_emod_of_nonneg h0] at h2
      exact gives_v rfl (by simp [eqGuard, binOp, Op.intDiv, hb0]) h2
    · exact gives_v rfl (by simp [eqGuard, binOp, Op.intDiv, h1]) h2
  case and => exact gives_v rfl (by simp [eqGuard, binOp, Op.intBits]) h
  case or => exact gives_v rfl (by simp [eqGuard, binOp, Op.intBits]) h
  case xor => exact gives_v rfl (by simp [eqGuard, binOp, Op.intBits]) h
  case eql =>
    refine gives_v rfl ?_ h
    have : (a == b) = decide (a = b) := by by_cases e : a = b <;> simp [e]
    simp [eqGuard, binOp, Op.intCmp, this]
  case neq =>
    refine gives_v rfl ?_ h
    have : (a != b) = !decide (a = b) := by by_cases e : a = b <;> simp [e, bne]
    simp [eqGuard, binOp, Op.intCmp, this]
  case lss => exact gives_v rfl (by simp [eqGuard, binOp, Op.intCmp]) h
  case gtr => exact gives_v rfl (by simp [eqGuard, binOp, Op.intCmp]) h
  case leq => exact gives_v rfl (by simp [eqGuard, binOp, Op.intCmp]) h
  case geq => exact gives_v rfl (by simp [eqGuard, binOp, Op.intCmp]) h
  all_goals exact h.elim

/-! Types -/
theorem Cx.form (X : Cx κ) (t : TypeId) : KOk X.P t (X.T t).k := by
  have h := X.tok t
  unfold TyOk at h
  split at h
  · rename_i e; rw [e]; trivial
  · exact h.1
theorem Rep.ownSlice {l s o n : Nat} {x : Value} (h : Rep X.V M w β (.own l s o n) x) : ∃ A c, x = .slice A n c ∧ n ≤ c ∧ c ≤ maxLen := by
  cases h with
  | own h hn hc => exact ⟨_, _, rfl, by omega, by omega⟩
  | ownE ho hc _ => exact ⟨_, _, rfl, by omega, hc⟩
  | ownNil h => exact ⟨_, _, rfl, by omega, by decide⟩
theorem Rep.ownNone {l s o n c : Nat} (h : Rep X.V M w β (.own l s o n) (.slice none n c)) : n = 0 := by
  generalize hx : Value.slice none n c = x at h
  cases h with
  | own h hn hc => cases hx
  | ownE ho hc hA => rfl
  | ownNil h => rfl
theorem eqIn_slice {P : Program} {w : World} (d : Nat) {t e : TypeId} (a : Option Addr) (n c : Nat) (h : P.underlying t = some (.slice e)) : (Op.equalIn (d + 1) t (.slice a n c) (.slice none 0 0)).run P w = .ok a.isNone w := by
  cases a <;> simp [Op.equalIn, run_underlying h]
theorem eqIn_ptr {P : Program} {w : World} (d : Nat) {t e : TypeId} (a : Option Addr) (h : P.underlying t = some (.pointer e)) : (Op.equalIn (d + 1) t (.pointer a) (.pointer none)).run P w = .ok a.isNone w := by
  cases a <;> simp [Op.equalIn, run_underlying h]
theorem eqIn_map {P : Program} {w : World} (d : Nat) {t k e : TypeId} (a : Option Nat) (h : P.underlying t = some (.map k e)) : (Op.equalIn (d + 1) t (.map a) (.map none)).run P w = .ok a.isNone w := by
  cases a <;> simp [Op.equalIn, run_underlying h]
theorem eqIn_nil {P : Program} {w : World} (d : Nat) {t : TypeId} {ms : Array (String × TypeId)} (h : P.underlying t = some (.interface ms)) : (Op.equalIn (d + 1) t .nilIface .nilIface).run P w = .ok true w := by
  simp [Op.equalIn, run_underlying h]
theorem eqIn_ifc {P : Program} {w : World} (d : Nat) {t u : TypeId} {x : Value} {ms : Array (String × TypeId)} (h : P.underlying t = some (.interface ms)) : (Op.equalIn (d + 1) t (.iface u x) .nilIface).run P w = .ok false w := by
  simp [Op.equalIn, run_underlying h]
theorem eq_of {P : Program} {w : World} {t : TypeId} {x y : Value} {b : Bool} (h : ∀ d, (Op.equalIn (d + 1) t x y).run P w = .ok b w) : (Op.equal t x y).run P w = .ok b w := h 9999
theorem cmp_gives {op : BinOp} {b : Bool} {t : TypeId} {xo yo : Operand} {x y : Value} {K : D κ → Prop} (hg : (eqGuard .eql t xo yo x y).run X.P w = .ok () w) (he : ∀ op : BinOp, (op = .eql ∨ op = .neq) → eqGuard op t xo yo x y = eqGuard .eql t xo yo x y ∧ (binOp op t x y).run X.P w = .ok (.bool (if op = .eql then b else !b)) w) (h : cmpW op b K) :
    Gives X M w β (do eqGuard op t xo yo x y; binOp op t x y) K := by
  unfold cmpW at h
  split at h
  · obtain ⟨e1, e2⟩ := he .eql (.inl rfl)
    exact gives_v rfl (by rw [if_pos rfl] at e2; simp [hg, e2]) h
  · obtain ⟨e1, e2⟩ := he .neq (.inr rfl)
    exact gives_v rfl (by rw [if_neg (by decide)] at e2; simp [e1, hg, e2]) h
  · exact h.elim
theorem nil_gives {op : BinOp} {t : TypeId} {xo yo : Operand} {dx dy : D κ} {x y : Value} {K : D κ → Prop} (hx : Rep X.V M w β dx x) (hy : Rep X.V M w β dy y) (h : nilW X (X.T t).k (constB xo || constB yo) op dx dy K) :
    Gives X M w β (do eqGuard op t xo yo x y; binOp op t x y) K := by
  have hf := X.form t
  unfold nilW at h
  split at h
  · rename_i e ek
    rw [ek] at hf
    simp only [KOk] at hf
    obtain ⟨rfl, _⟩ := hy.val
    have key2 : ∀ (A : Option Addr) (n c m : Nat), (A = none → m = 0) → nbW op m K → Gives X M w β (do eqGuard op t xo yo (.slice A n c) (.slice none 0 0); binOp op t (.slice A n c) (.slice none 0 0)) K := fun A n c m hm h => by
      have he := eq_of (w := w) fun d => eqIn_slice d A n c hf
      unfold nbW at h
      split at h
      · exact ⟨.bool A.isNone, _, by simp [eqGuard, binOp, he], .nb (fun hA => hm (Option.isNone_iff_eq_none.1 hA)), h⟩
      · exact ⟨.bool !A.isNone, _, by simp [eqGuard, binOp, he], .nb (fun hA => hm (by simpa using hA)), h⟩
      · exact h.elim
    have key : ∀ (A : Option Addr) (n c : Nat), cmpW op A.isNone K → Gives X M w β (do eqGuard op t xo yo (.slice A n c) (.slice none 0 0); binOp op t (.slice A n c) (.slice none 0 0)) K := fun A n c h => by
      refine cmp_gives (b := A.isNone) (by simp [eqGuard]) (fun op ho => ⟨by rcases ho with rfl | rfl <;> rfl, ?_⟩) h
      have he := eq_of (w := w) fun d => eqIn_slice d A n c hf
      rcases ho with rfl | rfl <;> simp [binOp, he]
    split at h
    · obtain ⟨rfl, _⟩ := hx.val
      exact key _ _ _ h
    · obtain ⟨A, c, rfl, h1, h2⟩ := hx.ownSlice
      exact key2 _ _ _ _ (fun hA => by subst hA; exact hx.ownNone) h
    · split at h
      · rename_i ha
        obtain ⟨A, c, rfl, hc, hm, hb, hn⟩ := (hx.asSl ha).slice
        exact key2 _ _ _ _ (fun hA => (hn hA).1) h
      · exact h.elim
  · rename_i ek
    rw [ek] at hf
    obtain ⟨e, hf⟩ := hf
    obtain ⟨rfl, _⟩ := hy.val
    have key : ∀ (A : Option Addr), cmpW op A.isNone K → Gives X M w β (do eqGuard op t xo yo (.pointer A) (.pointer none); binOp op t (.pointer A) (.pointer none)) K := fun A h => by
      refine cmp_gives (b := A.isNone) (by simp [eqGuard]) (fun op ho => ⟨by rcases ho with rfl | rfl <;> rfl, ?_⟩) h
      have he := eq_of (w := w) fun d => eqIn_ptr d A hf
      rcases ho with rfl | rfl <;> simp [binOp, he]
    split at h
    · obtain ⟨rfl, _⟩ := hx.val
      exact key _ h
    · cases hx; exact key _ h
    · cases hx; exact key _ h
    · cases hx; exact key _ h
    · exact h.elim
  · rename_i ek
    rw [ek] at hf
    simp only [KOk] at hf
    have hf := hf.1
    obtain ⟨rfl, _⟩ := hy.val
    have key : ∀ (A : Option Nat), cmpW op A.isNone K → Gives X M w β (do eqGuard op t xo yo (.map A) (.map none); binOp op t (.map A) (.map none)) K := fun A h => by
      refine cmp_gives (b := A.isNone) (by simp [eqGuard]) (fun op ho => ⟨by rcases ho with rfl | rfl <;> rfl, ?_⟩) h
      have he := eq_of (w := w) fun d => eqIn_map d A hf
      rcases ho with rfl | rfl <;> simp [binOp, he]
    split at h
    · obtain ⟨rfl, _⟩ := hx.val
      exact key _ h
    · cases hx; exact key _ h
    · exact h.elim
  · rename_i ek
    rw [ek] at hf
    obtain ⟨ms, hf⟩ := hf
    obtain ⟨rfl, _⟩ := hy.val
    split at h
    · obtain ⟨rfl, _⟩ := hx.val
      obtain ⟨hc, h⟩ := condW_no h
      refine cmp_gives (b := true) ?_ (fun op ho => ⟨by rcases ho with rfl | rfl <;> rfl, ?_⟩) h
      · cases xo <;> cases yo <;> first | (simp [constB] at hc; done) | simp [eqGuard]
      · have he := eq_of (w := w) fun d => eqIn_nil d hf
        rcases ho with rfl | rfl <;> simp [binOp, he]
    · cases hx
      refine cmp_gives (b := false) (by simp [eqGuard]) (fun op ho => ⟨by rcases ho with rfl | rfl <;> rfl, ?_⟩) h
      rename_i u _ x' _
      have he := eq_of (w := w) fun d => eqIn_ifc (u := u) (x := x') d hf
      rcases ho with rfl | rfl <;> simp [binOp, he]
    · exact h.elim
  · exact h.elim
theorem prim_agg {t : TypeId} {x : Value} (h : primB (X.T t).k x = true) (w : World) : (Go.isAgg t).run X.P w = .ok false w := by
  have h1 := X.form t
  unfold KOk at h1
  cases e : (X.T t).k <;> rw [e] at h h1 <;> first
    | (simp only at h1; simp [Go.isAgg, run_underlying h1]; done)
    | (cases x <;> simp [primB] at h; done)
theorem prim_eq {t : TypeId} {x y : Value} (hx : primB (X.T t).k x = true) (hy : primB (X.T t).k y = true) (d : Nat) : (Op.equalIn (d + 1) t x y).run X.P w = .ok (valEq x y) w := by
  have h1 := X.form t
  unfold KOk at h1
  cases e : (X.T t).k with
  | int k =>
    rw [e] at hx hy h1
    cases x <;> simp [primB] at hx
    cases y <;> simp [primB] at hy
    subst hx hy
    rw [run_equalIn_int w d t _ _ _ _ h1]
    show Result.ok (_ == _) w = _
    congr 1
  | str =>
    rw [e] at hx hy h1
    cases x <;> simp [primB] at hx
    cases y <;> simp [primB] at hy
    rw [run_equalIn_string w d t _ _ h1, str_eq]
    rfl
  | bool =>
    rw [e] at hx hy h1
    cases x <;> simp [primB] at hx
    cases y <;> simp [primB] at hy
    rw [run_equalIn_bool' w d t _ _ h1]
    rfl
  | _ => rw [e] at hx; cases x <;> simp [primB] at hx
theorem agg_gives {vs us : Array Value} (d : Nat) : ∀ (fs : List (Nat × Nat)) (flds : List Field) (i : Nat) (cs ds : List (D κ)) (K : Bool → Prop), fs = flds.map (fun F => (F.type, F.offset)) → (∀ F ∈ flds, F.name ≠ "_") → vs.size = i + cs.length → us.size = i + ds.length →
    (∀ j c, cs[j]? = some c → Rep X.V M w β c (vs.getD (i + j) undef)) → (∀ j c, ds[j]? = some c → Rep X.V M w β c (us.getD (i + j) undef)) → aggW X fs i cs ds K → ∃ b, (Op.eqFields (d + 1) vs us flds).run X.P w = .ok b w ∧ K b := by
  intro fs
  induction fs with
  | nil =>
    intro flds i cs ds K hf hN hv hu rv ru h
    cases flds with
    | cons F r => cases hf
    | nil =>
      cases cs <;> cases ds <;> first
        | exact ⟨true, by simp [Op.eqFields], h⟩
        | exact h.elim
  | cons p r ih =>
    intro flds i cs ds K hf hN hv hu rv ru h
    cases flds with
    | nil => cases hf
    | cons F flds =>
      cases cs with
      | nil => cases ds <;> exact h.elim
      | cons c cs =>
        cases ds with
        | nil => exact h.elim
        | cons e ds =>
          simp only [List.map_cons, List.cons.injEq] at hf
          obtain ⟨rfl, hf⟩ := hf
          simp only [aggW, fD_eq] at h
          have r1 := rv 0 c rfl
          have r2 := ru 0 e rfl
          split at h
          · rename_i x y
            obtain ⟨hc, h⟩ := condW_no h
            simp only [Bool.and_eq_true] at hc
            obtain ⟨⟨h0, hx⟩, hy⟩ := hc
            have h0 : F.offset = i := Nat.eq_of_beq_eq_true h0
            obtain ⟨b, hb, hK⟩ := ih flds (i + 1) cs ds _ hf (fun G hG => hN G (List.mem_cons_of_mem _ hG)) (by simp only [List.length_cons] at hv; omega) (by simp only [List.length_cons] at hu; omega) (fun j c hj => by
              have := rv (j + 1) c (by simpa using hj)
              rwa [show i + 1 + j = i + (j + 1) by omega]) (fun j c hj => by
              have := ru (j + 1) c (by simpa using hj)
              rwa [show i + 1 + j = i + (j + 1) by omega]) h
            have e1 : (part F.type vs F.offset).run X.P w = .ok x w := by
              have hlt : i < vs.size := by simp only [List.length_cons] at hv; omega
              have := r1.val.1
              rw [h0, Nat.add_zero] at *
              simp only [part, Sem.run_bind, prim_agg hx, Result.andThen_ok, Bool.false_eq_true, if_false, Array.getElem?_eq_getElem hlt, Sem.run_pure]
              simp [Array.getD, hlt] at this
              rw [this]
            have e2 : (part F.type us F.offset).run X.P w = .ok y w := by
              have hlt : i < us.size := by simp only [List.length_cons] at hu; omega
              have := r2.val.1
              rw [h0, Nat.add_zero] at *
              simp only [part, Sem.run_bind, prim_agg hx, Result.andThen_ok, Bool.false_eq_true, if_false, Array.getElem?_eq_getElem hlt, Sem.run_pure]
              simp [Array.getD, hlt] at this
              rw [this]
            have e3 := prim_eq (w := w) hx hy d
            refine ⟨valEq x y && b, ?_, hK⟩
            have hn := hN F (List.mem_cons_self ..)
            simp only [Op.eqFields, hn, ne_eq, not_false_eq_true, if_true, Sem.run_bind, e1, e2, e3, Result.andThen_ok, Sem.run_ite]
            cases valEq x y
            · simp
            · simpa using hb
          · exact h.elim
theorem eq_gives {op : BinOp} {t : TypeId} {xo yo : Operand} {cs ds : List (D κ)} {x y : Value} {K : D κ → Prop} (hx : Rep X.V M w β (.agg cs) x) (hy : Rep X.V M w β (.agg ds) y) (h : eqW X t (X.T t).k op cs ds K) : Gives X M w β (do eqGuard op t xo yo x y; binOp op t x y) K := by
  cases hx with
  | @agg _ _ vs hn h1 hr =>
  cases hy with
  | @agg _ _ us hn2 h2 hr2 =>
  have hf := X.form t
  unfold eqW at h
  split at h
  · rename_i fs ek
    rw [ek] at hf
    obtain ⟨fa, hu, hfs, _⟩ := hf
    obtain ⟨hc, h⟩ := condW_no h
    have hs := X.sok t hc
    have hfo : X.P.fieldsOf t = fa := by unfold Program.fieldsOf; rw [hu]
    have hN := hs.names
    rw [hfo, List.all_eq_true] at hN
    obtain ⟨b, hb, hK⟩ := agg_gives (X := X) (M := M) (w := w) (β := β) (vs := vs) (us := us) 9998 fs fa.toList 0 cs ds _ hfs (fun F hF => by simpa using hN F hF) (by omega) (by omega) (fun j c hj => by rw [Nat.zero_add]; exact hr j c hj) (fun j c hj => by rw [Nat.zero_add]; exact hr2 j c hj) h
    have he := run_equalIn_agg (P := X.P) w 9999 t vs us (by rw [hfo]; exact hu) hs.held
    rw [hfo, hb] at he
    refine cmp_gives (b := b) (run_eqGuard_agg w .eql t xo yo vs us hs.guard) (fun op ho => ⟨by rcases ho with rfl | rfl <;> rfl, ?_⟩) hK
    rcases ho with rfl | rfl
    · rw [run_eql_struct, he]; rfl
    · rw [run_neq_struct, he]; rfl
  · exact h.elim
theorem bin_gives {op : BinOp} {t : TypeId} {xo yo : Operand} {dx dy : D κ} {x y : Value} {K : D κ → Prop} (hx : Rep X.V M w β dx x) (hy : Rep X.V M w β dy y) (h : binW X t (X.T t).k (constB xo || constB yo) op dx dy K) :
    Gives X M w β (do eqGuard op t xo yo x y; binOp op t x y) K := by
  have hb : (X.T t).k.isBool = true → X.P.underlying t = some .bool := by
    intro hb
    have h1 := X.form t
    cases e : (X.T t).k <;> rw [e] at hb h1 <;> first | exact h1 | cases hb
  unfold binW at h
  split at h
  · rename_i k a k' b
    obtain ⟨rfl, _⟩ := hx.val
    obtain ⟨rfl, _⟩ := hy.val
    split at h
    · exact shift_gives h
    · rename_i hs
      rcases condW_spec h with ⟨hk, h2⟩ | ⟨_, h2⟩
      · have hk := of_decide_eq_true hk
        subst hk
        exact int_gives hs h2
      · exact h2.elim
  · rename_i a b
    obtain ⟨rfl, _⟩ := hx.val
    obtain ⟨rfl, _⟩ := hy.val
    split at h
    · refine ⟨.string (a ++ b), _, ?_, .v (by simp only [okB, ByteArray.size_append, decide_eq_true_eq, maxLen]; omega), h.2⟩
      have := run_string_add_sum (P := X.P) w a b h.1
      simpa [eqGuard, binOp] using this
    · exact gives_v rfl (by simp [eqGuard, binOp, Op.stringOp, str_eq]) h
    · exact gives_v rfl (by simp [eqGuard, binOp, Op.stringOp, str_eq]) h
    · exact gives_v rfl (by simp [eqGuard, binOp, Op.stringOp, strLt]) h
    · exact gives_v rfl (by simp [eqGuard, binOp, Op.stringOp, str_eq, strLt]) h
    · exact gives_v rfl (by simp [eqGuard, binOp, Op.stringOp, str_eq, strLt]) h
    · exact gives_v rfl (by simp [eqGuard, binOp, Op.stringOp, strLt]) h
    · exact h.elim
  · rename_i a b
    obtain ⟨rfl, _⟩ := hx.val
    obtain ⟨rfl, _⟩ := hy.val
    split at h
    · rcases condW_spec h with ⟨hk, h⟩ | ⟨_, h⟩
      · exact gives_v rfl (by simp [eqGuard, binOp, run_equal_bool w t a b (hb hk)]) h
      · exact h.elim
    · rcases condW_spec h with ⟨hk, h⟩ | ⟨_, h⟩
      · exact gives_v rfl (by simp [eqGuard, binOp, run_equal_bool w t a b (hb hk)]) h
      · exact h.elim
    · exact h.elim
  · rename_i cs ds
    exact eq_gives hx hy h
  · exact nil_gives hx hy h

/-! Types -/
theorem Cx.info (X : Cx κ) {t : TypeId} (h : (X.T t).k ≠ .other) : 0 < (X.T t).size ∧ (X.T t).zero.cells.size = (X.T t).size ∧ (X.T t).zero.cells.toList.all okB = true ∧ (X.T t).isAgg = (match (X.T t).zero with | .agg _ => true | _ => false) ∧
    ∃ j, X.P.info? t = some j ∧ j.size = (X.T t).size ∧ j.bytes = (X.T t).bytes ∧ j.zero = some (X.T t).zero := by
  have h1 := X.tok t
  unfold TyOk at h1
  split at h1
  · rename_i e; exact absurd e h
  · exact h1.2.2
theorem Cx.bytes (X : Cx κ) {t : TypeId} (h : (X.T t).k ≠ .other) : 0 < (X.T t).bytes := by
  have h1 := X.tok t
  unfold TyOk at h1
  split at h1
  · rename_i e; exact absurd e h
  · exact h1.2.1
theorem Cx.sizeOf (X : Cx κ) {t : TypeId} (h : (X.T t).k ≠ .other) (w : World) : (sizeOf t).run X.P w = .ok (X.T t).size w := by
  obtain ⟨_, _, _, _, j, h1, h2, _⟩ := X.info h
  rw [run_sizeOf w h1, Program.cellsOf, h1]
  simp [h2]
theorem Cx.isAgg (X : Cx κ) {t : TypeId} (h : (X.T t).k ≠ .other) (w : World) : (isAgg t).run X.P w = .ok (X.T t).isAgg w := by
  have h1 := X.form t
  unfold TyI.isAgg
  unfold KOk at h1
  split at h1
  case h_11 => rename_i e; exact absurd e h
  case h_10 =>
    rename_i e
    obtain ⟨fa, h1, _⟩ := h1
    simp [Go.isAgg, run_underlying h1, e]
  case h_6 =>
    rename_i e
    simp [Go.isAgg, run_underlying h1.1, e]
  case h_7 =>
    rename_i e
    obtain ⟨_, h1⟩ := h1
    simp [Go.isAgg, run_underlying h1, e]
  case h_8 =>
    rename_i e
    obtain ⟨_, h1⟩ := h1
    simp [Go.isAgg, run_underlying h1, e]
  case h_9 =>
    rename_i e
    obtain ⟨_, _, _, h1⟩ := h1
    simp [Go.isAgg, run_underlying h1, e]
  all_goals (rename_i e; simp [Go.isAgg, run_underlying h1, e])

theorem getD_take {α : Type} (l : List α) (off n i : Nat) (d : α) : ((l.drop off).take n)[i]? = if i < n then l[off + i]? else none := by
  rw [List.getElem?_take]
  split
  · rw [List.getElem?_drop]
  · rfl

theorem load_gives {t : TypeId} {b o n : Nat} {f : Nat → D κ} {K : D κ → Prop} (u : Nat → Value) (hk : (X.T t).k ≠ .other) (hu : ∀ j, j < n → w.cell? ⟨b, o + j, none⟩ = some (u j) ∧ (u j).oneCell' = true) (hr : ∀ j, j < n → Rep X.V M w β (f j) (u j))
    (off : Nat) (cs : List (D κ)) (hcs : cs = (List.range n).map f) (h : partW (X.T t) off cs K) : Gives X M w β (loadVar t ⟨b, o + off, none⟩) K := by
  subst hcs
  unfold partW at h
  obtain ⟨hl, h⟩ := condW_no h
  have hl : off + (X.T t).size ≤ n := by simpa using Nat.le_of_ble_eq_true hl
  obtain ⟨h0, _, _, _, _⟩ := X.info hk
  have ha := X.isAgg hk w
  have hs := X.sizeOf hk w
  cases hagg : (X.T t).isAgg
  · rw [hagg] at h ha
    simp only [fD_eq] at h
    have h1 := hu off (by omega)
    refine ⟨u off, f off, ?_, hr off (by omega), ?_⟩
    · simp [loadVar, ha, run_load, h1.1]
    · have e : ((List.range n).map f).getD off .opq = f off := by
        simp [List.getD, List.getElem?_range (by omega : off < n)]
      rw [e] at h
      exact h
  · rw [hagg] at h ha
    simp only [fL_eq] at h
    have hlist := run_loadCells_list (P := X.P) w ⟨b, o + off, none⟩ ((List.range (X.T t).size).map fun j => u (off + j)) (fun j v hv => by
      rw [List.getElem?_map] at hv
      rw [Option.map_eq_some_iff] at hv
      obtain ⟨i, hi, rfl⟩ := hv
      obtain ⟨hi1, hi2⟩ := List.getElem?_eq_some_iff.1 hi
      have hi3 : i = j := by rw [← hi2]; simp
      subst hi3
      have hi4 : i < (X.T t).size := by simpa using hi1
      have := (hu (off + i) (by omega)).1
      rw [Go.WideShapes.add_plain, ← Nat.add_assoc] at *
      rw [Nat.add_assoc] at *
      simpa [Nat.add_assoc] using this)
    refine ⟨.agg (((List.range (X.T t).size).map fun j => u (off + j))).toArray, _, ?_, ?_, h⟩
    · simp only [List.length_map, List.length_range] at hlist
      simp [loadVar, ha, hs, hlist]
    · refine .agg ?_ ?_ ?_
      · simp; omega
      · intro i hi
        simp only [List.length_take, List.length_drop, List.length_map, List.length_range] at hi
        have := (hu (off + i) (by omega)).2
        simpa [Array.getD, (by omega : i < (X.T t).size)] using this
      · intro i d hd
        rw [getD_take _ _ _ _ .opq] at hd
        split at hd
        · rename_i hi
          rw [List.getElem?_map, List.getElem?_range (by omega)] at hd
          simp only [Option.map_some, Option.some.injEq] at hd
          subst hd
          have := hr (off + i) (by omega)
          simpa [Array.getD, hi] using this
        · cases hd

theorem part_gives {t : TypeId} {off : Nat} {cs : List (D κ)} {vs : Array Value} {K : D κ → Prop} (hk : (X.T t).k ≠ .other) (hr : Rep X.V M w β (.agg cs) (.agg vs)) (h : partW (X.T t) off cs K) : Gives X M w β (part t vs off) K := by
  cases hr with
  | agg hn h1 hd =>
  unfold partW at h
  obtain ⟨hl, h⟩ := condW_no h
  have hl : off + (X.T t).size ≤ cs.length := Nat.le_of_ble_eq_true hl
  obtain ⟨h0, _, _, _, _⟩ := X.info hk
  have ha := X.isAgg hk w
  have hs := X.sizeOf hk w
  cases hagg : (X.T t).isAgg
  · rw [hagg] at h ha
    simp only [fD_eq] at h
    have hlt : off < vs.size := by omega
    refine ⟨vs.getD off undef, cs.getD off .opq, ?_, hd off _ (by simp [List.getD, List.getElem?_eq_getElem (by omega : off < cs.length)]), h⟩
    simp [part, ha, hlt]
  · rw [hagg] at h ha
    simp only [fL_eq] at h
    refine ⟨.agg (vs.extract off (off + (X.T t).size)), _, by simp [part, ha, hs], ?_, h⟩
    have e : ∀ i, i < (X.T t).size → (vs.extract off (off + (X.T t).size)).getD i undef = vs.getD (off + i) undef := by
      intro i hi
      have h1 : i < min (off + (X.T t).size) vs.size - off := by omega
      simp [Array.getD, h1, (by omega : off + i < vs.size)]
    refine .agg ?_ ?_ ?_
    · simp; omega
    · intro i hi
      have hi : i < (X.T t).size := by
        simp only [List.length_take, List.length_drop] at hi
        omega
      rw [e i hi]
      exact h1 _ (by omega)
    · intro i d hd'
      rw [getD_take _ _ _ _ .opq] at hd'
      split at hd'
      · rename_i hi
        rw [e i hi]
        exact hd _ _ hd'
      · cases hd'

theorem encode_size (n : Int) : (Utf8.encode n).size ≤ 4 := by
  simp only [Utf8.encode]
  repeat (any_goals split)
  all_goals simp [ByteArray.size]
theorem conv_gives {src dst : TypeId} {d : D κ} {x : Value} {K : D κ → Prop} (hx : Rep X.V M w β d x) (h : convW X src dst d K) : Gives X M w β (convert src dst x) K := by
  have h1 := X.form src
  have h2 := X.form dst
  unfold convW at h
  split at h
  · rename_i e1 e2
    rw [e1] at h1
    rw [e2] at h2
    obtain ⟨rfl, _⟩ := hx.val
    refine gives_v rfl ?_ h
    simp only [KOk] at h1 h2
    simp [convert, run_underlying h1, run_underlying h2, Conv.intToInt]
  · rename_i e1 e2
    rw [e1] at h1
    rw [e2] at h2
    obtain ⟨rfl, _⟩ := hx.val
    rename_i n _ _
    obtain ⟨h3, h4⟩ := h
    refine gives_v rfl ?_ h4
    simp only [KOk] at h1 h2
    simp [convert, run_underlying h1, run_underlying h2, Conv.intToInt, IntWalk.i64_in _ h3]
  · rename_i e1 e2 
    rw [e1] at h1
    rw [e2] at h2
    obtain ⟨rfl, _⟩ := hx.val
    refine gives_v rfl ?_ h
    simp only [KOk] at h1 h2
    simp [convert, run_underlying h1, run_underlying h2, Conv.intToInt]
  · rename_i e1 e2
    rw [e1] at h1
    rw [e2] at h2
    obtain ⟨rfl, ho⟩ := hx.val
    refine gives_v ho ?_ h
    simp only [KOk] at h1 h2
    simp [convert, run_underlying h1, run_underlying h2]
  · rename_i e1 e2
    rw [e1] at h1
    rw [e2] at h2
    obtain ⟨rfl, _⟩ := hx.val
    refine ⟨_, _, ?_, .v ?_, h⟩
    · simp only [KOk] at h1 h2
      simp [convert, run_underlying h1, run_underlying h2, Conv.intToString]
    · exact decide_eq_true (Nat.le_trans (encode_size _) (show 4 ≤ maxLen by decide))
  · exact h.elim

theorem bounds_run {lo hi : Option (D κ)} {n m : Nat} {l h : Option Value} {K : Nat → Nat → Prop} {sl : Bool} (hl : ∀ d, lo = some d → ∃ x, l = some x ∧ Rep X.V M w β d x) (hl0 : lo = none → l = none) (hh : ∀ d, hi = some d → ∃ x, h = some x ∧ Rep X.V M w β d x) (hh0 : hi = none → h = none)
    (hnm : n ≤ m) (hk : boundsW lo hi n K) : ∃ a b, a ≤ b ∧ b ≤ n ∧ K a b ∧ (Instr.sliceBounds sl n m l h none).run X.P w = .ok (a, b, m) w := by
  unfold boundsW at hk
  split at hk
  · rename_i x1 x2 k1 a k2 b e1 e2
    obtain ⟨⟨h0, h1, h2⟩, h3⟩ := hk
    refine ⟨a.toNat, b.toNat, by omega, by omega, h3, ?_⟩
    have hlow : (lo = none ∧ l = none ∧ a = 0) ∨ (∃ k, l = some (.int k a)) := by
      cases lo with
      | none =>
        simp only [Option.getD_none, D.v.injEq, Value.int.injEq] at e1
        exact .inl ⟨rfl, hl0 rfl, e1.2.symm⟩
      | some d =>
        simp only [Option.getD_some] at e1
        subst e1
        obtain ⟨x, hx1, hx2⟩ := hl _ rfl
        obtain ⟨rfl, _⟩ := hx2.val
        exact .inr ⟨_, hx1⟩
    have hhigh : (hi = none ∧ h = none ∧ b = n) ∨ (∃ k, h = some (.int k b)) := by
      cases hi with
      | none =>
        simp only [Option.getD_none, D.v.injEq, Value.int.injEq] at e2
        exact .inl ⟨rfl, hh0 rfl, e2.2.symm⟩
      | some d =>
        simp only [Option.getD_some] at e2
        subst e2
        obtain ⟨x, hx1, hx2⟩ := hh _ rfl
        obtain ⟨rfl, _⟩ := hx2.val
        exact .inr ⟨_, hx1⟩
    have hb0 : (b.toNat : Int) = b := Int.toNat_of_nonneg (by omega)
    rcases hlow with ⟨_, rfl, rfl⟩ | ⟨k, rfl⟩ <;> rcases hhigh with ⟨_, rfl, rfl⟩ | ⟨k', rfl⟩
    · simp [Instr.sliceBounds]
    · have : b ≤ m := by omega
      simp [Instr.sliceBounds, Instr.sliceBound, asIntOf, h1, this]
    · simp [Instr.sliceBounds, Instr.sliceBound, asIntOf, h0, h1]
    · have : b ≤ m := by omega
      have hbz : 0 ≤ b := by omega
      simp [Instr.sliceBounds, Instr.sliceBound, asIntOf, h0, h1, this, hbz, hb0]
  · exact hk.elim

theorem Rep.ownPart {l s o n a b c : Nat} {A : Option Addr} (h : Rep X.V M w β (.own l s o n) (.slice A n c)) (h1 : a ≤ b) (h2 : b ≤ n) : Rep X.V M w β (.own l s (o + a) (b - a)) (.slice (if c = a then A else A.map (·.add (a * s))) (b - a) (c - a)) := by
  generalize hx : Value.slice A n c = x at h
  cases h with
  | @own _ _ _ _ _ bb cc h hn hc =>
    injection hx with hA _ hcc
    subst hA hcc
    have hadd : (⟨bb, o * s, none⟩ : Addr).add (a * s) = ⟨bb, o * s + a * s, none⟩ := Go.WideShapes.add_plain _ _ _
    by_cases e : cc - o = a
    · rw [if_pos e]
      have hb : b - a = 0 := by omega
      rw [hb]
      rcases Nat.eq_zero_or_pos (o + a) with h0 | h0
      · obtain rfl : o = 0 := by omega
        obtain rfl : a = 0 := by omega
        have := Rep.own (V := X.V) (M := M) (w := w) (β := β) (s := s) (o := 0) (n := 0) h (by omega) hc
        simpa using this
      · exact .ownE h0 (by omega) (fun h => by cases h)
    · rw [if_neg e]
      simp only [Option.map_some, hadd]
      have := Rep.own (V := X.V) (M := M) (w := w) (β := β) (s := s) (o := o + a) (n := b - a) h (by omega) hc
      rw [Nat.add_mul, Nat.sub_add_eq] at this
      exact this
  | ownE ho hc hA' =>
    injection hx with hA hn hcc
    obtain rfl : a = 0 := by omega
    obtain rfl : b = 0 := by omega
    subst hA
    refine .ownE (by omega) (by omega) (fun h => ?_)
    have : A = none := by
      split at h
      · exact h
      · cases A with
        | none => rfl
        | some _ => cases h
    have := hA' this
    omega
  | ownNil h =>
    injection hx with hA hn hcc
    obtain rfl : a = 0 := by omega
    obtain rfl : b = 0 := by omega
    subst hA
    have : (if c = 0 then (none : Option Addr) else Option.map (fun x : Addr => x.add (0 * s)) none) = none := by split <;> rfl
    rw [this]
    obtain rfl : c = 0 := hcc
    exact .ownNil h
theorem slice_gives {t : TypeId} {d : D κ} {x : Value} {lo hi : Option (D κ)} {l h : Option Value} {K : D κ → Prop} (hx : Rep X.V M w β d x) (hl : ∀ d, lo = some d → ∃ x, l = some x ∧ Rep X.V M w β d x) (hl0 : lo = none → l = none) (hh : ∀ d, hi = some d → ∃ x, h = some x ∧ Rep X.V M w β d x) (hh0 : hi = none → h = none)
    (hk : sliceW X t d lo hi K) : Gives X M w β (Instr.sliceAt t x l h none) K := by
  have ht := X.form t
  unfold sliceW at hk
  split at hk
  · rename_i s e1
    rw [e1] at ht
    simp only [KOk] at ht
    obtain ⟨rfl, ho⟩ := hx.val
    obtain ⟨a, b, h1, h2, h3, h4⟩ := bounds_run (X := X) (M := M) (w := w) (β := β) (sl := false) hl hl0 hh hh0 (Nat.le_refl _) hk
    refine ⟨.string (s.extract a b), _, ?_, .v ?_, h3⟩
    · simp [Instr.sliceAt, Instr.slice, run_underlying ht, h4]
    · simp only [okB, decide_eq_true_eq, ByteArray.size_extract] at ho ⊢
      omega
  · rename_i e lb sz o n e1
    rw [e1] at ht
    simp only [KOk] at ht
    obtain ⟨hs, hk⟩ := condW_no hk
    obtain ⟨hs, hkn⟩ := (Bool.and_eq_true _ _ ▸ hs : _ ∧ _)
    have hs := Nat.eq_of_beq_eq_true hs
    subst hs
    obtain ⟨A, c, rfl, hc, hm⟩ := hx.ownSlice
    obtain ⟨a, b, h1, h2, h3, h4⟩ := bounds_run (X := X) (M := M) (w := w) (β := β) (sl := true) hl hl0 hh hh0 hc hk
    have hsz := X.sizeOf (TyI.known_ne hkn) w
    exact ⟨.slice (if c = a then A else A.map (·.add (a * (X.T e).size))) (b - a) (c - a), _, by simp [Instr.sliceAt, Instr.slice, run_underlying ht, h4, hsz], hx.ownPart h1 h2, h3⟩
  · rename_i e e1 _
    rw [e1] at ht
    simp only [KOk] at ht
    split at hk
    · rename_i sz by_ n f ha
      obtain ⟨hs, hk⟩ := condW_no hk
      obtain ⟨hs, hkn⟩ := (Bool.and_eq_true _ _ ▸ hs : _ ∧ _)
      have hs := Nat.eq_of_beq_eq_true hs
      subst hs
      have hr := hx.asSl ha
      obtain ⟨A, c, rfl, hc, hm, hb, hn⟩ := hr.slice
      obtain ⟨a, b, h1, h2, h3, h4⟩ := bounds_run (X := X) (M := M) (w := w) (β := β) (sl := true) hl hl0 hh hh0 hc hk
      have hsz := X.sizeOf (TyI.known_ne hkn) w
      refine ⟨.slice (if c = a then A else A.map (·.add (a * (X.T e).size))) (b - a) (c - a), _, by simp [Instr.sliceAt, Instr.slice, run_underlying ht, h4, hsz], ?_, h3⟩
      cases hr with
      | nil hc' hA =>
        obtain rfl : a = 0 := by omega
        obtain rfl : b = 0 := by omega
        refine .nil (by omega) (fun h => ?_)
        split at h
        · assumption
        · cases A with
          | none => rw [hA rfl]
          | some _ => cases h
      | sl u q1 q2 q3 hu hf =>
        rename_i bb o
        by_cases hca : c = a
        · have hba : b - a = 0 := by omega
          rw [if_pos hca, hba]
          exact .sl u (by omega) (by omega) (by omega) (fun i j hi => by omega) (fun i j hi => by omega)
        · rw [if_neg hca]
          have hadd : (⟨bb, o, none⟩ : Addr).add (a * (X.T e).size) = ⟨bb, o + a * (X.T e).size, none⟩ := Go.WideShapes.add_plain _ _ _
          simp only [Option.map_some, hadd]
          have he : ∀ i j, o + a * (X.T e).size + i * (X.T e).size + j = o + (i + a) * (X.T e).size + j := fun i j => by rw [Nat.add_mul]; omega
          refine .sl (fun i j => u (i + a) j) (by omega) (by omega) (Nat.le_trans (Nat.mul_le_mul_right _ (by omega)) hb) (fun i j hi hj => ?_) (fun i j hi hj => hf (i + a) j (by omega) hj)
          rw [he]
          exact hu (i + a) j (by omega) hj
    · exact hk.elim
  · exact hk.elim

theorem bAt_eq (s : ByteArray) (k : Nat) (h : k < s.size) : s[k] = bAt s k := by
  unfold bAt
  rw [List.getD, List.getElem?_eq_getElem (by simpa using h)]
  rfl

theorem index_gives {t : TypeId} {s : ByteArray} {k : IntKind} {n : Int} {K : D κ → Prop} (ht : (X.T t).k = .str) (h : (0 ≤ n ∧ n < s.size) ∧ K (.v (.int .u8 (bAt s n.toNat).toNat))) : Gives X M w β (Instr.index t (.string s) (.int k n)) K := by
  have h1 := X.form t
  rw [ht] at h1
  simp only [KOk] at h1
  obtain ⟨hn, hk⟩ := h
  refine gives_v rfl ?_ hk
  rw [run_index_string w t s k n h1, dif_pos hn, bAt_eq s n.toNat (by omega)]

theorem indexAddr_gives {t e : TypeId} {d : D κ} {x : Value} {sz by_ n : Nat} {f : Nat → Nat → D κ} {kk : IntKind} {k : Int} {K : D κ → Prop} (ht : (X.T t).k = .sl e) (hx : Rep X.V M w β d x) (hd : d.asSl X.V (X.T e).size (X.T e).bytes = some (sz, by_, n, f))
    (h : condW (Nat.beq sz (X.T e).size && (X.T e).known) ((0 ≤ k ∧ k < n) ∧ K (.ref sz (f k.toNat))) False) : Gives X M w β (Instr.indexAt t x (.int kk k)) K := by
  have h1 := X.form t
  rw [ht] at h1
  simp only [KOk] at h1
  obtain ⟨hs, hn, hk⟩ := condW_no h
  obtain ⟨hs, hkn⟩ := (Bool.and_eq_true _ _ ▸ hs : _ ∧ _)
  have hs := Nat.eq_of_beq_eq_true hs
  subst hs
  have hsz := X.sizeOf (TyI.known_ne hkn) w
  have hr := hx.asSl hd
  cases hr with
  | nil => omega
  | sl u hc hm hb hu hf =>
    rename_i c b o
    have hadd : (⟨b, o, none⟩ : Addr).add (k.toNat * (X.T e).size) = ⟨b, o + k.toNat * (X.T e).size, none⟩ := Go.WideShapes.add_plain _ _ _
    refine ⟨.pointer (some ⟨b, o + k.toNat * (X.T e).size, none⟩), _, ?_, .ref (u k.toNat) (fun j hj => hu k.toNat j (by omega) hj) (fun j hj => hf k.toNat j (by omega) hj), hk⟩
    simp [Instr.indexAt, run_underlying h1, asIntOf, hn, hsz, hadd]

theorem indexOwn_gives {t e : TypeId} {l o n : Nat} {x : Value} {kk : IntKind} {k : Int} {K : D κ → Prop} (ht : (X.T t).k = .sl e) (hkn : (X.T e).known = true) (hx : Rep X.V M w β (.own l (X.T e).size o n) x) (hn : 0 ≤ k ∧ k < n) (h : K (.elt l (X.T e).size (o + k.toNat) 0)) :
    Gives X M w β (Instr.indexAt t x (.int kk k)) K := by
  have h1 := X.form t
  rw [ht] at h1
  simp only [KOk] at h1
  have hsz := X.sizeOf (TyI.known_ne hkn) w
  cases hx with
  | @own _ _ _ _ _ b c hb hn' hc =>
    have hadd : (⟨b, o * (X.T e).size, none⟩ : Addr).add (k.toNat * (X.T e).size) = ⟨b, (o + k.toNat) * (X.T e).size + 0, none⟩ := by rw [Go.WideShapes.add_plain, Nat.add_mul]; rfl
    refine ⟨.pointer (some ⟨b, (o + k.toNat) * (X.T e).size + 0, none⟩), _, ?_, .elt hb, h⟩
    simp [Instr.indexAt, run_underlying h1, asIntOf, hn, hsz, hadd]
  | ownE ho hc _ => omega
  | ownNil h => omega
theorem indexArr_gives {t e : TypeId} {n b o : Nat} {kk : IntKind} {k : Int} {d : D κ} {K : D κ → Prop} (ht : (X.T t).k = .arr n e) (hkn : (X.T e).known = true) (hn : 0 ≤ k ∧ k < n) (hd : Rep X.V M w β d (.pointer (some ⟨b, o + k.toNat * (X.T e).size, none⟩))) (h : K d) :
    Gives X M w β (Instr.indexAt t (.pointer (some ⟨b, o, none⟩)) (.int kk k)) K := by
  have h1 := X.form t
  rw [ht] at h1
  simp only [KOk] at h1
  have hsz := X.sizeOf (TyI.known_ne hkn) w
  have hadd : (⟨b, o, none⟩ : Addr).add (k.toNat * (X.T e).size) = ⟨b, o + k.toNat * (X.T e).size, none⟩ := Go.WideShapes.add_plain _ _ _
  refine ⟨_, _, ?_, hd, h⟩
  simp [Instr.indexAt, run_underlying h1, asIntOf, hn, hsz, hadd, Instr.sureAddr]
theorem fieldOwn_gives {t : TypeId} {fs : List (Nat × Nat)} {i b o : Nat} {p : Nat × Nat} {d : D κ} {K : D κ → Prop} (ht : (X.T t).k = .struct fs) (hp : fs[i]? = some p) (hd : Rep X.V M w β d (.pointer (some ⟨b, o + p.2, none⟩))) (h : K d) :
    Gives X M w β (Instr.fieldAt t (.pointer (some ⟨b, o, none⟩)) i) K := by
  have h1 := X.form t
  rw [ht] at h1
  simp only [KOk] at h1
  obtain ⟨fa, h1, rfl, h3⟩ := h1
  rw [List.getElem?_map] at hp
  obtain ⟨F, hF, rfl⟩ := Option.map_eq_some_iff.1 hp
  have hF' : fa[i]? = some F := by simpa using hF
  obtain ⟨j, hj, hj0⟩ := h3 F (List.mem_of_getElem? hF)
  have hadd : (⟨b, o, none⟩ : Addr).add F.offset = ⟨b, o + F.offset, none⟩ := Go.WideShapes.add_plain _ _ _
  refine ⟨_, d, ?_, hd, h⟩
  have hs : (sizeOf F.type).run X.P w = .ok j.size w := by rw [run_sizeOf w hj, Program.cellsOf, hj]; rfl
  simp [Instr.fieldAt, run_underlying h1, hF', Instr.sureAddr, fieldPlace, hs, hj0, hadd]
theorem fieldAddr_gives {t : TypeId} {fs : List (Nat × Nat)} {n i : Nat} {f : Nat → D κ} {x : Value} {p : Nat × Nat} {K : D κ → Prop} (ht : (X.T t).k = .struct fs) (hx : Rep X.V M w β (.ref n f) x) (hp : fs[i]? = some p) (h : K (.ref (n - p.2) (fun j => f (p.2 + j)))) :
    Gives X M w β (Instr.fieldAt t x i) K := by
  have h1 := X.form t
  rw [ht] at h1
  simp only [KOk] at h1
  obtain ⟨fa, h1, rfl, h3⟩ := h1
  rw [List.getElem?_map] at hp
  obtain ⟨F, hF, rfl⟩ := Option.map_eq_some_iff.1 hp
  have hF' : fa[i]? = some F := by simpa using hF
  obtain ⟨j, hj, hj0⟩ := h3 F (List.mem_of_getElem? hF)
  cases hx with
  | ref u hu hf =>
    rename_i b o
    have hadd : (⟨b, o, none⟩ : Addr).add F.offset = ⟨b, o + F.offset, none⟩ := Go.WideShapes.add_plain _ _ _
    refine ⟨.pointer (some ⟨b, o + F.offset, none⟩), _, ?_, .ref (fun j => u (F.offset + j)) (fun j hj => by rw [Nat.add_assoc]; exact hu (F.offset + j) (by simp only at hj; omega)) (fun j hj => hf (F.offset + j) (by simp only at hj; omega)), h⟩
    have hs : (sizeOf F.type).run X.P w = .ok j.size w := by rw [run_sizeOf w hj, Program.cellsOf, hj]; rfl
    simp [Instr.fieldAt, run_underlying h1, hF', Instr.sureAddr, fieldPlace, hs, hj0, hadd]

theorem field_gives {t : TypeId} {fs : List (Nat × Nat)} {i : Nat} {cs : List (D κ)} {x : Value} {p : Nat × Nat} {K : D κ → Prop} (ht : (X.T t).k = .struct fs) (hx : Rep X.V M w β (.agg cs) x) (hp : fs[i]? = some p) (hk : (X.T p.1).k ≠ .other) (h : partW (X.T p.1) p.2 cs K) :
    Gives X M w β (Instr.field t x i) K := by
  have h1 := X.form t
  rw [ht] at h1
  simp only [KOk] at h1
  obtain ⟨fa, h1, rfl, h3⟩ := h1
  rw [List.getElem?_map] at hp
  obtain ⟨F, hF, rfl⟩ := Option.map_eq_some_iff.1 hp
  have hF' : fa[i]? = some F := by simpa using hF
  cases hx with
  | agg hn h1' hd =>
    obtain ⟨v, d, hv, hr, hK⟩ := part_gives (w := w) hk (Rep.agg hn h1' hd) h
    exact ⟨v, d, by simp [Instr.field, run_underlying h1, hF', asAgg, hv], hr, hK⟩

theorem indexAgg_gives {t e : TypeId} {m : Nat} {cs : List (D κ)} {x : Value} {kk : IntKind} {n : Int} {K : D κ → Prop} (ht : (X.T t).k = .arr m e) (hkn : (X.T e).known = true) (hx : Rep X.V M w β (.agg cs) x) (hn : 0 ≤ n ∧ n < m) (h : partW (X.T e) (n.toNat * (X.T e).size) cs K) :
    Gives X M w β (Instr.index t x (.int kk n)) K := by
  have h1 := X.form t
  rw [ht] at h1
  simp only [KOk] at h1
  have hsz := X.sizeOf (TyI.known_ne hkn) w
  cases hx with
  | agg hl h1' hd =>
    obtain ⟨v, d, hv, hr, hK⟩ := part_gives (w := w) (TyI.known_ne hkn) (Rep.agg hl h1' hd) h
    exact ⟨v, d, by simp [Instr.index, run_underlying h1, asIntOf, hn, hsz, hv], hr, hK⟩

theorem len_str {t : TypeId} {s : ByteArray} (ht : (X.T t).k = .str) {ty : TypeId} : (Builtin.len_ #[t] ty #[.string s]).run X.P w = .ok (.int .i64 s.size) w := by
  have h1 := X.form t
  rw [ht] at h1
  simp only [KOk] at h1
  simp [Builtin.len_, run_underlying h1, goInt]
theorem len_sl {t e : TypeId} {A : Option Addr} {n c : Nat} (ht : (X.T t).k = .sl e) {ty : TypeId} : (Builtin.len_ #[t] ty #[.slice A n c]).run X.P w = .ok (.int .i64 n) w := by
  have h1 := X.form t
  rw [ht] at h1
  simp only [KOk] at h1
  simp [Builtin.len_, run_underlying h1, goInt]
theorem run_max (t : Array TypeId) (ty : TypeId) (k k' : IntKind) (a b : Int) : (Builtin.max_ t ty #[.int k a, .int k' b]).run X.P w = .ok (.int k (max a b)) w := by
  have : (if b > a then b else a) = max a b := by omega
  simp [Builtin.max_, Builtin.max2, this]
theorem run_min (t : Array TypeId) (ty : TypeId) (k k' : IntKind) (a b : Int) : (Builtin.min_ t ty #[.int k a, .int k' b]).run X.P w = .ok (.int k (min a b)) w := by
  have : (if b < a then b else a) = min a b := by omega
  simp [Builtin.min_, Builtin.min2, this]
end
end Go.Proofs.YteojgenhgjhohaaDoor
