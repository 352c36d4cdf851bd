/-
  An operation that only computes or reads, over any program: run, it gives what 'pureW' says.
-/
import Derived.Test.YteojgenhgjhohaaDoorN2
namespace Go.Proofs.YteojgenhgjhohaaDoor
open Go.RowKit
set_option linter.unusedVariables false
set_option linter.unusedSimpArgs false

section
variable {κ : Type} {X : Cx κ} {M : Nat → Nat → Prop} {w : World} {β : Bt}

def GivesN (X : Cx κ) (M : Nat → Nat → Prop) (w : World) (β : Bt) (s : Sem Next) (K : D κ → Prop) : Prop := ∃ x d, s.run X.P w = .ok (.value x) w ∧ Rep X.V M w β d x ∧ K d

theorem Gives.n {s : Sem Value} {K : D κ → Prop} (h : Gives X M w β s K) : GivesN X M w β (do pure (Next.value (← s))) K :=
  let ⟨x, d, h1, h2, h3⟩ := h
  ⟨x, d, vrun h1, h2, h3⟩

theorem run_builtin (b : Builtin) (ts : Array TypeId) (args : Array Operand) (type : TypeId) (ρ : Operand → Value) (dst : Option Tmp) (pos : String) (after : Array Edge) (guard : Option (Nat × Bool)) :
    ∃ cs, (execOp ρ { dst := dst, op := .call { callee := .builtin b, args := args, argTypes := ts }, type := type, pos := pos, after := after, guard := guard }).run X.P w = (builtin b ts type cs (args.map ρ)).run X.P w :=
  ⟨_, by simp only [execOp, resolve, invoke]; rfl⟩

theorem list_args {args : Array Operand} {ev : Operand → D κ} {x : D κ} (h : args.toList.map ev = [x]) : ∃ a, args = #[a] ∧ ev a = x := by
  obtain ⟨l⟩ := args
  match l, h with
  | [a], h => exact ⟨a, rfl, by simpa using h⟩
theorem list_args2 {args : Array Operand} {ev : Operand → D κ} {x y : D κ} (h : args.toList.map ev = [x, y]) : ∃ a b, args = #[a, b] ∧ ev a = x ∧ ev b = y := by
  obtain ⟨l⟩ := args
  match l, h with
  | [a, b], h => exact ⟨a, b, rfl, by simpa using h⟩

theorem builtin_gives (b : Builtin) (ts : Array TypeId) (args : Array Operand) (type : TypeId) (ρ : Operand → Value) (ev : Operand → D κ) (hev : ∀ x, Rep X.V M w β (ev x) (ρ x)) (K : D κ → Prop) (h : builtinW X b ts.toList (args.toList.map ev) K)
    {dst : Option Tmp} {pos : String} {after : Array Edge} {guard : Option (Nat × Bool)} :
    GivesN X M w β (execOp ρ { dst := dst, op := .call { callee := .builtin b, args := args, argTypes := ts }, type := type, pos := pos, after := after, guard := guard }) K := by
  unfold builtinW at h
  split at h
  · rename_i t x e1 e2
    obtain ⟨a, rfl, rfl⟩ := list_args e2
    obtain rfl : ts = #[t] := by cases ts; simp_all
    unfold lenW at h
    split at h
    · rename_i s e1 e2
      have hx := hev a
      rw [e2] at hx
      obtain ⟨hx, ho⟩ := hx.val
      have hs : s.size ≤ 9223372036854775807 := of_decide_eq_true ho
      refine ⟨_, _, ?_, .v rfl, h hs⟩
      obtain ⟨cs, e⟩ := run_builtin (X := X) (w := w) .len #[t] #[a] type ρ dst pos after guard
      rw [e]
      have := len_str (X := X) (w := w) (s := s) (ty := type) e1
      simp [builtin, hx, this]
    · rename_i e l s o n e1 e2
      have hx := hev a
      rw [e2] at hx
      obtain ⟨A, c, hv, h1, h2⟩ := hx.ownSlice
      refine ⟨_, _, ?_, .v rfl, h (by unfold maxLen at h2; omega)⟩
      obtain ⟨cs, e⟩ := run_builtin (X := X) (w := w) .len #[t] #[a] type ρ dst pos after guard
      rw [e]
      have := len_sl (X := X) (w := w) (A := A) (n := n) (c := c) (ty := type) e1
      simp [builtin, hv, this]
    · rename_i e e1 _
      split at h
      · rename_i sz by_ n f e2
        have hr := (hev a).asSl e2
        obtain ⟨A, c, hv, h1, h2, h3, _⟩ := hr.slice
        refine ⟨_, _, ?_, .v rfl, h ⟨h3, by unfold maxLen at h2; omega⟩⟩
        obtain ⟨cs, e⟩ := run_builtin (X := X) (w := w) .len #[t] #[a] type ρ dst pos after guard
        rw [e]
        have := len_sl (X := X) (w := w) (A := A) (n := n) (c := c) (ty := type) e1
        simp [builtin, hv, this]
      · exact h.elim
    · exact h.elim
  · rename_i x y e2
    obtain ⟨a, b, rfl, rfl, rfl⟩ := list_args2 e2
    unfold mmW at h
    split at h
    · rename_i k p k' q e1 e2
      have hx := hev a
      have hy := hev b
      rw [e1] at hx
      rw [e2] at hy
      obtain ⟨hx, _⟩ := hx.val
      obtain ⟨hy, _⟩ := hy.val
      refine ⟨_, _, ?_, .v rfl, h⟩
      obtain ⟨cs, e⟩ := run_builtin (X := X) (w := w) .max ts #[a, b] type ρ dst pos after guard
      rw [e]
      have := run_max (X := X) (w := w) ts type k k' p q
      simp [builtin, hx, hy, this]
    · exact h.elim
  · rename_i x y e2
    obtain ⟨a, b, rfl, rfl, rfl⟩ := list_args2 e2
    unfold mmW at h
    split at h
    · rename_i k p k' q e1 e2
      have hx := hev a
      have hy := hev b
      rw [e1] at hx
      rw [e2] at hy
      obtain ⟨hx, _⟩ := hx.val
      obtain ⟨hy, _⟩ := hy.val
      refine ⟨_, _, ?_, .v rfl, h⟩
      obtain ⟨cs, e⟩ := run_builtin (X := X) (w := w) .min ts #[a, b] type ρ dst pos after guard
      rw [e]
      have := run_min (X := X) (w := w) ts type k k' p q
      simp [builtin, hx, hy, this]
    · exact h.elim
  · exact h.elim

theorem Cx.plain (X : Cx κ) {t : TypeId} (h1 : (X.T t).k ≠ .other) (h2 : (X.T t).k ≠ .ifc) : ∃ u, X.P.underlying t = some u ∧ ∀ ms, u ≠ .interface ms := by
  have hf := X.form t
  cases e : (X.T t).k <;> rw [e] at hf h1 h2 <;> simp only [KOk] at hf
  case other => exact absurd rfl h1
  case ifc => exact absurd rfl h2
  case struct =>
    obtain ⟨fa, hf, _⟩ := hf
    exact ⟨_, hf, fun _ h => by cases h⟩
  case map => exact ⟨_, hf.1, fun _ h => by cases h⟩
  case ptr =>
    obtain ⟨_, hf⟩ := hf
    exact ⟨_, hf, fun _ h => by cases h⟩
  case func =>
    obtain ⟨_, _, _, hf⟩ := hf
    exact ⟨_, hf, fun _ h => by cases h⟩
  all_goals exact ⟨_, hf, fun _ h => by cases h⟩
theorem run_zero (X : Cx κ) {t : TypeId} (h1 : (X.T t).k ≠ .other) (w : World) : (zeroValue t).run X.P w = .ok (X.T t).zero w := by
  obtain ⟨_, _, _, _, j, hj, _, _, hz⟩ := X.info h1
  simp [zeroValue, typeInfo, hj, hz]
theorem zero_gives {t : TypeId} {K : D κ → Prop} (h1 : (X.T t).k ≠ .other) (h : zeroW (X.T t) K) : ∃ d, Rep X.V M w β d (X.T t).zero ∧ K d := by
  obtain ⟨_, hn, hok, hagg, _⟩ := X.info h1
  unfold zeroW at h
  have hall : ∀ v ∈ (X.T t).zero.cells.toList, okB v = true := fun v hv => List.all_eq_true.1 hok v hv
  generalize (X.T t).zero = z at h hagg hall
  cases hb : (X.T t).isAgg <;> rw [hb] at h hagg
  · simp only at h
    refine ⟨_, .v ?_, h⟩
    cases z <;> first | (cases hagg; done) | exact hall _ (by simp [Value.cells])
  · simp only [fL_eq] at h
    cases z <;> try cases hagg
    rename_i cs
    simp only [Value.cells] at h hall
    refine ⟨_, .agg (by simp) (fun i hi => ?_) (fun i d hd => ?_), h⟩
    · have hi : i < cs.size := by simpa using hi
      have := hall cs[i] (by simp)
      simp only [Array.getD, hi, dite_true]
      exact okB_one this
    · rw [List.getElem?_map] at hd
      obtain ⟨v, hv, rfl⟩ := Option.map_eq_some_iff.1 hd
      have hv' : cs[i]? = some v := by simpa using hv
      simp only [Array.getD_eq_getD_getElem?, hv', Option.getD_some]
      exact .v (hall v (List.mem_of_getElem? hv))
theorem asrt_hit {P : Program} {t xt : TypeId} {v : Value} {u : TypeDesc} (hu : P.underlying t = some u) (hn : ∀ ms, u ≠ .interface ms) (ok : Bool) : (Instr.typeAssert (.iface t v) xt t ok).run P w = .ok (if ok then .tuple #[v, .bool true] else v) w := by
  cases u <;> first | exact absurd rfl (hn _) | (cases ok <;> simp [Instr.typeAssert, run_underlying hu])
theorem asrt_miss {P : Program} {t xt t' : TypeId} {v z : Value} {u : TypeDesc} (hu : P.underlying t = some u) (hn : ∀ ms, u ≠ .interface ms) (hz : (zeroValue t).run P w = .ok z w) (ht : t' ≠ t) : (Instr.typeAssert (.iface t' v) xt t true).run P w = .ok (.tuple #[z, .bool false]) w := by
  cases u <;> first | exact absurd rfl (hn _) | simp [Instr.typeAssert, run_underlying hu, ht, hz]
theorem asrt_nil {P : Program} {t xt : TypeId} {z : Value} {u : TypeDesc} (hu : P.underlying t = some u) (hn : ∀ ms, u ≠ .interface ms) (hz : (zeroValue t).run P w = .ok z w) : (Instr.typeAssert .nilIface xt t true).run P w = .ok (.tuple #[z, .bool false]) w := by
  cases u <;> first | exact absurd rfl (hn _) | simp [Instr.typeAssert, run_underlying hu, hz]
theorem rep_tup2 {d : D κ} {v : Value} {b : Bool} (h : Rep X.V M w β d v) : Rep X.V M w β (.tup [d, .v (.bool b)]) (.tuple #[v, .bool b]) := by
  refine .tup rfl (fun i c hc => ?_)
  match i, hc with
  | 0, hc => simp at hc; subst hc; exact h
  | 1, hc => simp at hc; subst hc; exact .v rfl
theorem asrt_gives {t xt : TypeId} {ok : Bool} {d : D κ} {x : Value} {K : D κ → Prop} (hx : Rep X.V M w β d x) (h : asrtW X t ok d K) : Gives X M w β (Instr.typeAssert x xt t ok) K := by
  unfold asrtW at h
  split at h
  · exact h.elim
  · exact h.elim
  · rename_i h1 h2
    obtain ⟨u, hu, hn⟩ := X.plain h1 h2
    have hz := run_zero X h1 w
    have zero : zeroW (X.T t) (fun z => K (.tup [z, .v (.bool false)])) → ∃ d, Rep X.V M w β d (.tuple #[(X.T t).zero, .bool false]) ∧ K d := fun h => by
      obtain ⟨d, hd, hK⟩ := zero_gives (X := X) (M := M) (w := w) (β := β) h1 h
      exact ⟨_, rep_tup2 hd, hK⟩
    split at h
    · rename_i t' d
      cases hx
      rename_i v hv
      rcases condW_spec h with ⟨he, h5⟩ | ⟨he, h⟩
      · obtain rfl : t' = t := Nat.eq_of_beq_eq_true he
        rw [fD_eq] at h5
        cases ok
        · exact ⟨_, _, asrt_hit hu hn false, hv.of_b0, h5⟩
        · exact ⟨_, _, asrt_hit hu hn true, rep_tup2 hv.of_b0, h5⟩
      · have hne : t' ≠ t := fun e => by rw [beq_dec, decide_eq_true e] at he; cases he
        cases ok
        · exact h.elim
        · obtain ⟨d, hd, hK⟩ := zero h
          exact ⟨_, _, asrt_miss hu hn hz hne, hd, hK⟩
    · obtain ⟨rfl, _⟩ := hx.val
      cases ok
      · exact h.elim
      · obtain ⟨d, hd, hK⟩ := zero h
        exact ⟨_, _, asrt_nil hu hn hz, hd, hK⟩
    · exact h.elim
theorem pure_gives (o : Oper) (ρ : Operand → Value) (ev : Operand → D κ) (hev : ∀ x, Rep X.V M w β (ev x) (ρ x)) (K : D κ → Prop) (h : pureW X o.op ev K) : GivesN X M w β (execOp ρ o) K := by
  obtain ⟨dst, op, type, pos, after, guard⟩ := o
  simp only at h
  unfold pureW at h
  split at h
  · -- pick
    rename_i c a b
    split at h
    · rename_i t e1
      have hc := hev c
      rw [e1] at hc
      obtain ⟨hc, _⟩ := hc.val
      simp only [fD_eq] at h
      rcases condW_spec h with ⟨rfl, h⟩ | ⟨rfl, h⟩
      · exact ⟨ρ a, ev a, by simp [execOp, hc, asBool], hev a, h⟩
      · exact ⟨ρ b, ev b, by simp [execOp, hc, asBool], hev b, h⟩
    · exact h.elim
  · -- binOp
    rename_i bop t x y yt
    exact (bin_gives (hev x) (hev y) h).n
  · -- not
    rename_i t x
    split at h
    · rename_i b e1
      have hx := hev x
      rw [e1] at hx
      obtain ⟨hx, _⟩ := hx.val
      exact Gives.n (gives_v (s := Op.unary .not (ρ x)) rfl (by rw [hx]; simp [Op.unary]) h)
    · exact h.elim
  · -- neg
    rename_i t x
    split at h
    · rename_i k n e1
      have hx := hev x
      rw [e1] at hx
      obtain ⟨hx, _⟩ := hx.val
      exact Gives.n (arith_gives (s := Op.unary .neg (ρ x)) h (by rw [hx]; simp [Op.unary, Op.intArith]))
    · exact h.elim
  · -- extract
    rename_i x i
    split at h
    · rename_i ds e1
      have hx := hev x
      rw [e1] at hx
      obtain ⟨hl, h⟩ := condW_no h
      simp only [fD_eq] at h
      have hl : i < ds.length := Nat.le_of_ble_eq_true hl
      cases hv : ρ x <;> rw [hv] at hx <;> cases hx
      rename_i vs hn hd
      have h1 := hd i _ (by rw [List.getElem?_eq_getElem hl])
      have e : ds.getD i .opq = ds[i] := by simp [List.getD, List.getElem?_eq_getElem hl]
      rw [e] at h
      have hi : i < vs.size := by omega
      refine ⟨vs.getD i undef, _, ?_, h1, h⟩
      simp [execOp, hv, Instr.extract, hi]
    · exact h.elim
  · -- a builtin
    rename_i c
    obtain ⟨callee, args, ts⟩ := c
    cases callee
    case builtin b => exact builtin_gives b ts args type ρ ev hev K h
    all_goals exact h.elim
  · -- index
    rename_i t x i
    split at h
    · rename_i s k n e1 e2 e3
      have hx := hev x
      have hi := hev i
      rw [e2] at hx
      rw [e3] at hi
      obtain ⟨hx, _⟩ := hx.val
      obtain ⟨hi, _⟩ := hi.val
      have := index_gives (M := M) (w := w) (β := β) (k := k) e1 h
      rw [← hx, ← hi] at this
      exact this.n
    · rename_i m e cs k n e1 e2 e3
      have hx := hev x
      have hi := hev i
      rw [e2] at hx
      rw [e3] at hi
      obtain ⟨hi, _⟩ := hi.val
      obtain ⟨hkn, hn, h⟩ := condW_no h
      have := indexAgg_gives (M := M) (w := w) (β := β) (kk := k) e1 hkn hx hn h
      rw [← hi] at this
      exact this.n
    · exact h.elim
  · -- indexAddr
    rename_i t x i
    split at h
    · rename_i e e1
      split at h
      · rename_i l s o n kk k e2 e3
        have hx := hev x
        have hi := hev i
        rw [e2] at hx
        rw [e3] at hi
        obtain ⟨hi, _⟩ := hi.val
        obtain ⟨hs, hn, h⟩ := condW_no h
        obtain ⟨hs, hkn⟩ := (Bool.and_eq_true _ _ ▸ hs : _ ∧ _)
        have hs := Nat.eq_of_beq_eq_true hs
        subst hs
        have := indexOwn_gives (M := M) (w := w) (β := β) (kk := kk) e1 hkn hx hn h
        rw [← hi] at this
        exact this.n
      · rename_i kk k e3 _
        split at h
        · rename_i sz by_ n f e2
          have hi := hev i
          rw [e3] at hi
          obtain ⟨hi, _⟩ := hi.val
          have := indexAddr_gives (M := M) (w := w) (β := β) (kk := kk) e1 (hev x) e2 h
          rw [← hi] at this
          exact this.n
        · exact h.elim
      · exact h.elim
    · rename_i n e e1
      split at h
      · rename_i l o kk k e2 e3
        have hx := hev x
        have hi := hev i
        rw [e2] at hx
        rw [e3] at hi
        obtain ⟨hi, _⟩ := hi.val
        obtain ⟨hkn, hn, h⟩ := condW_no h
        cases hv : ρ x <;> rw [hv] at hx <;> cases hx
        rename_i b c hb
        have := indexArr_gives (X := X) (M := M) (w := w) (β := β) (kk := kk) (b := b) (o := o) e1 hkn hn (.ptr hb) h
        rw [← hi, ← hv] at this
        exact this.n
      · rename_i m f kk k e2 e3
        have hx := hev x
        have hi := hev i
        rw [e2] at hx
        rw [e3] at hi
        obtain ⟨hi, _⟩ := hi.val
        obtain ⟨hc, hn, h⟩ := condW_no h
        obtain ⟨hkn, hle⟩ := (Bool.and_eq_true _ _ ▸ hc : _ ∧ _)
        have hle := Nat.le_of_ble_eq_true hle
        cases hv : ρ x <;> rw [hv] at hx <;> cases hx
        rename_i b oo u hu hf
        have hin : ∀ j, j < (X.T e).size → k.toNat * (X.T e).size + j < m := fun j hj => by
          have : (k.toNat + 1) * (X.T e).size ≤ n * (X.T e).size := Nat.mul_le_mul_right _ (by omega)
          rw [Nat.succ_mul] at this
          omega
        have := indexArr_gives (X := X) (M := M) (w := w) (β := β) (kk := kk) (b := b) (o := oo) e1 hkn hn (.ref (fun j => u (k.toNat * (X.T e).size + j)) (fun j hj => by rw [Nat.add_assoc]; exact hu _ (hin j hj)) (fun j hj => hf _ (hin j hj))) h
        rw [← hi, ← hv] at this
        exact this.n
      · exact h.elim
    · exact h.elim
  · -- fieldAddr
    rename_i t x i
    split at h
    · rename_i fs n f e1 e2
      have hx := hev x
      rw [e2] at hx
      split at h
      · rename_i p hp
        simp only [fN_eq] at h
        exact (fieldAddr_gives e1 hx hp h).n
      · exact h.elim
    · rename_i fs l o e1 e2
      have hx := hev x
      rw [e2] at hx
      split at h
      · rename_i p hp
        simp only [fN_eq] at h
        cases hv : ρ x <;> rw [hv] at hx <;> cases hx
        rename_i b c hb
        have := fieldOwn_gives (X := X) (M := M) (w := w) (β := β) (b := b) (o := o) e1 hp (.ptr (o := o + p.2) hb) h
        rw [← hv] at this
        exact this.n
      · exact h.elim
    · rename_i fs l s k j e1 e2
      have hx := hev x
      rw [e2] at hx
      split at h
      · rename_i p hp
        simp only [fN_eq] at h
        cases hv : ρ x <;> rw [hv] at hx <;> cases hx
        rename_i b c hb
        have := fieldOwn_gives (X := X) (M := M) (w := w) (β := β) (b := b) (o := k * s + j) e1 hp (by rw [Nat.add_assoc]; exact .elt (s := s) (k := k) (j := j + p.2) hb) h
        rw [← hv] at this
        exact this.n
      · exact h.elim
    · exact h.elim
  · -- load
    rename_i t x
    split at h
    · rename_i n f e1
      have hx := hev x
      rw [e1] at hx
      split at h
      · exact h.elim
      · rename_i hne
        cases hv : ρ x <;> rw [hv] at hx <;> cases hx
        rename_i b oo u hu hf
        have := load_gives (t := t) (X := X) (M := M) (w := w) (β := β) u hne (fun j hj => (hu j hj).2) (fun j hj => (hf j hj).of_b0) 0 _ rfl h
        have h2 : Gives X M w β (Instr.loadAt t (ρ x)) K := by
          rw [hv]
          simpa [Instr.loadAt, Instr.sureAddr] using this
        exact h2.n
    · exact h.elim
  · -- field
    rename_i t x i
    split at h
    · rename_i fs cs e1 e2
      have hx := hev x
      rw [e2] at hx
      split at h
      · rename_i p hp
        split at h
        · exact h.elim
        · rename_i hne
          exact (field_gives e1 hx hp hne h).n
      · exact h.elim
    · exact h.elim
  · -- convert
    rename_i s d x
    exact (conv_gives (hev x) h).n
  · -- slice
    rename_i t x lo hi
    refine (slice_gives (l := lo.map ρ) (h := hi.map ρ) (hev x) ?_ ?_ ?_ ?_ h).n
    · intro d hd
      obtain ⟨y, rfl, rfl⟩ := Option.map_eq_some_iff.1 hd
      exact ⟨ρ y, rfl, hev y⟩
    · intro hd
      cases lo <;> simp_all
    · intro d hd
      obtain ⟨y, rfl, rfl⟩ := Option.map_eq_some_iff.1 hd
      exact ⟨ρ y, rfl, hev y⟩
    · intro hd
      cases hi <;> simp_all
  · -- nilCheck
    rename_i x
    split at h
    · rename_i n f e1
      have hx := hev x
      rw [e1] at hx
      cases hv : ρ x <;> rw [hv] at hx <;> cases hx
      rename_i b oo u hu hf
      exact ⟨_, _, by simp [execOp, hv], .ref u hu hf, h⟩
    · rename_i l o e1
      have hx := hev x
      rw [e1] at hx
      cases hv : ρ x <;> rw [hv] at hx <;> cases hx
      rename_i b c hb
      exact ⟨_, _, by simp [execOp, hv], .ptr hb, h⟩
    · rename_i l s k j e1
      have hx := hev x
      rw [e1] at hx
      cases hv : ρ x <;> rw [hv] at hx <;> cases hx
      rename_i b c hb
      exact ⟨_, _, by simp [execOp, hv], .elt hb, h⟩
    · exact h.elim
  · -- typeAssert
    rename_i x xt t ok
    exact (asrt_gives (hev x) h).n
  · -- makeFunc
    rename_i fn first caps
    split at h
    · rename_i f hf
      simp only [fL_eq] at h
      have hf : first = #[] := by cases first; simp_all
      subst hf
      refine ⟨.func (.func f) #[] (caps.map ρ), _, by simp [execOp, Instr.makeFunc], .fn (by simp) (fun i d hd => ?_), h⟩
      rw [List.getElem?_map] at hd
      obtain ⟨x, hx, rfl⟩ := Option.map_eq_some_iff.1 hd
      have hx' : caps[i]? = some x := by simpa using hx
      have : (caps.map ρ)[i]? = some (ρ x) := by rw [Array.getElem?_map, hx']; rfl
      simp only [Array.getD_eq_getD_getElem?, this, Option.getD_some]
      exact hev x
    · exact h.elim
  · exact h.elim
end
end Go.Proofs.YteojgenhgjhohaaDoor
