/-
  Values of Go read as plain data ('D'), over any program: what it is for a value of a world to read as a datum; pointers to a call's own objects are data; contracts of functions in these terms.
-/
import Derived.Test.YteojgenhgjhohaaDoorL0
import Derived.ProofKit
import Derived.Maps.Keyed
import Derived.Laws.StructEq
namespace Go.Proofs.YteojgenhgjhohaaDoor
open Go.RowKit
set_option linter.unusedVariables false
set_option linter.unusedSimpArgs false

inductive D (κ : Type) : Type where
  | v (x : Value)
  | agg (cs : List (D κ))
  | tup (cs : List (D κ))
  | sl (sz by_ n : Nat) (f : Nat → Nat → D κ)
  | rc (k : κ)
  | ref (n : Nat) (f : Nat → D κ)
  | fn (f : FuncId) (cs : List (D κ))
  | ptr (l o : Nat)
  | elt (l s k j : Nat)
  | own (l s o n : Nat)
  | ifc (t : Nat) (d : D κ)
  | mp (l : Nat)
  | ifo (t l s n : Nat)
  | nb (w : Bool) (n : Nat)
  | mfn (f : FuncId) (fs : List (D κ))
  | und
  | opq

abbrev VW (κ : Type) : Type := κ → Nat × Nat × Nat × (Nat → Nat → D κ)
abbrev Bt : Type := Nat → Option (Option (Nat × Nat))
def b0 : Bt := fun _ => none

def okB : Value → Bool
  | .int _ _ => true
  | .string s => decide (s.size ≤ maxLen)
  | .bool _ => true
  | .slice none 0 0 => true
  | .pointer none => true
  | .pointer (some ⟨_, _, none⟩) => true
  | .map _ => true
  | .nilIface => true
  | .nilFunc => true
  | _ => false
theorem okB_one {x : Value} (h : okB x = true) : x.oneCell' = true := by
  cases x <;> simp_all [okB, Value.oneCell']

inductive Rep {κ : Type} (V : VW κ) (M : Nat → Nat → Prop) (w : World) : Bt → D κ → Value → Prop
  | v {β : Bt} {x : Value} (h : okB x = true) : Rep V M w β (.v x) x
  | opq {β : Bt} {x : Value} : Rep V M w β .opq x
  | und {β : Bt} : Rep V M w β .und undef
  | fn {β : Bt} {f : FuncId} {cs : List (D κ)} {vs : Array Value} (hn : vs.size = cs.length) (h : ∀ i d, cs[i]? = some d → Rep V M w β d (vs.getD i undef)) : Rep V M w β (.fn f cs) (.func (.func f) #[] vs)
  | agg {β : Bt} {cs : List (D κ)} {vs : Array Value} (hn : vs.size = cs.length) (h1 : ∀ i, i < cs.length → (vs.getD i undef).oneCell' = true) (h : ∀ i d, cs[i]? = some d → Rep V M w β d (vs.getD i undef)) : Rep V M w β (.agg cs) (.agg vs)
  | tup {β : Bt} {cs : List (D κ)} {vs : Array Value} (hn : vs.size = cs.length) (h : ∀ i d, cs[i]? = some d → Rep V M w β d (vs.getD i undef)) : Rep V M w β (.tup cs) (.tuple vs)
  | nil {β : Bt} {sz by_ c : Nat} {f : Nat → Nat → D κ} {A : Option Addr} (hc : c ≤ maxLen) (hA : A = none → c = 0) : Rep V M w β (.sl sz by_ 0 f) (.slice A 0 c)
  | sl {β : Bt} {sz by_ n c b o : Nat} {f : Nat → Nat → D κ} (u : Nat → Nat → Value) (hc : n ≤ c) (hm : c ≤ maxLen) (hb : n * by_ ≤ 140737488355328)
      (hu : ∀ i j, i < n → j < sz → M b (o + i * sz + j) ∧ w.cell? ⟨b, o + i * sz + j, none⟩ = some (u i j) ∧ (u i j).oneCell' = true)
      (h : ∀ i j, i < n → j < sz → Rep V M w b0 (f i j) (u i j)) : Rep V M w β (.sl sz by_ n f) (.slice (some ⟨b, o, none⟩) n c)
  | rc {β : Bt} {k : κ} {x : Value} (h : Rep V M w β (.sl (V k).1 (V k).2.1 (V k).2.2.1 (V k).2.2.2) x) : Rep V M w β (.rc k) x
  | ref {β : Bt} {n b o : Nat} {f : Nat → D κ} (u : Nat → Value) (hu : ∀ j, j < n → M b (o + j) ∧ w.cell? ⟨b, o + j, none⟩ = some (u j) ∧ (u j).oneCell' = true) (h : ∀ j, j < n → Rep V M w b0 (f j) (u j)) :
      Rep V M w β (.ref n f) (.pointer (some ⟨b, o, none⟩))
  | ptr {β : Bt} {l o b c : Nat} (h : β l = some (some (b, c))) : Rep V M w β (.ptr l o) (.pointer (some ⟨b, o, none⟩))
  | elt {β : Bt} {l s k j b c : Nat} (h : β l = some (some (b, c))) : Rep V M w β (.elt l s k j) (.pointer (some ⟨b, k * s + j, none⟩))
  | own {β : Bt} {l s o n b c : Nat} (h : β l = some (some (b, c))) (hn : o + n ≤ c) (hc : c ≤ maxLen) : Rep V M w β (.own l s o n) (.slice (some ⟨b, o * s, none⟩) n (c - o))
  | ownE {β : Bt} {l s o c : Nat} {A : Option Addr} (ho : 0 < o) (hc : c ≤ maxLen) (hA : A = none → c = 0) : Rep V M w β (.own l s o 0) (.slice A 0 c)
  | ownNil {β : Bt} {l s : Nat} (h : β l = some none) : Rep V M w β (.own l s 0 0) (.slice none 0 0)
  | ifc {β : Bt} {t : Nat} {d : D κ} {x : Value} (h : Rep V M w b0 d x) : Rep V M w β (.ifc t d) (.iface t x)
  | mp {β : Bt} {l b c : Nat} (h : β l = some (some (b, c))) : Rep V M w β (.mp l) (.map (some b))
  | ifo {β : Bt} {t l s n : Nat} {x : Value} (h : Rep V M w β (.own l s 0 n) x) : Rep V M w β (.ifo t l s n) (.iface t x)
  | nb {β : Bt} {q b : Bool} {n : Nat} (h : b = q → n = 0) : Rep V M w β (.nb q n) (.bool b)
  | mfn {β : Bt} {f : FuncId} {fs : List (D κ)} {vs : Array Value} (hn : vs.size = fs.length) (h : ∀ i d, fs[i]? = some d → Rep V M w b0 d (vs.getD i undef)) : Rep V M w β (.mfn f fs) (.func (.func f) vs #[])

section
variable {κ : Type} {V : VW κ} {M M' : Nat → Nat → Prop} {w w' : World} {β β' : Bt}

theorem Rep.mono {d : D κ} {x : Value} (h : Rep V M w β d x) (hM : ∀ b o, M b o → M' b o) (hw : ∀ b o, M b o → w'.cell? ⟨b, o, none⟩ = w.cell? ⟨b, o, none⟩) : Rep V M' w' β d x := by
  induction h with
  | v h => exact .v h
  | opq => exact .opq
  | und => exact .und
  | fn hn _ ih => exact .fn hn ih
  | agg hn h1 _ ih => exact .agg hn h1 ih
  | tup hn _ ih => exact .tup hn ih
  | nil hc hA => exact .nil hc hA
  | sl u hc hm hb hu _ ih => exact .sl u hc hm hb (fun i j hi hj => have ⟨a, b, c⟩ := hu i j hi hj; ⟨hM _ _ a, (hw _ _ a).trans b, c⟩) ih
  | rc _ ih => exact .rc ih
  | ref u hu _ ih => exact .ref u (fun j hj => have ⟨a, b, c⟩ := hu j hj; ⟨hM _ _ a, (hw _ _ a).trans b, c⟩) ih
  | ptr h => exact .ptr h
  | elt h => exact .elt h
  | own h hn hc => exact .own h hn hc
  | ownE h hc hA => exact .ownE h hc hA
  | ownNil h => exact .ownNil h
  | ifc _ ih => exact .ifc ih
  | mp h => exact .mp h
  | ifo _ ih => exact .ifo ih
  | nb h => exact .nb h
  | mfn hn _ ih => exact .mfn hn ih

theorem Rep.of_b0 {d : D κ} {x : Value} (h : Rep V M w b0 d x) : Rep V M w β d x := by
  have key : ∀ {γ : Bt} {d : D κ} {x : Value}, Rep V M w γ d x → γ = b0 → Rep V M w β d x := by
    intro γ d x h
    induction h with
    | v h => intro _; exact .v h
    | opq => intro _; exact .opq
    | und => intro _; exact .und
    | fn hn _ ih => intro e; exact .fn hn (fun i d hd => ih i d hd e)
    | agg hn h1 _ ih => intro e; exact .agg hn h1 (fun i d hd => ih i d hd e)
    | tup hn _ ih => intro e; exact .tup hn (fun i d hd => ih i d hd e)
    | nil hc hA => intro _; exact .nil hc hA
    | sl u hc hm hb hu h _ => intro _; exact .sl u hc hm hb hu h
    | rc _ ih => intro e; exact .rc (ih e)
    | ref u hu h _ => intro _; exact .ref u hu h
    | ptr h => intro e; rw [e] at h; cases h
    | elt h => intro e; rw [e] at h; cases h
    | own h hn hc => intro e; rw [e] at h; cases h
    | ownE h hc hA => intro _; exact .ownE h hc hA
    | ownNil h => intro e; rw [e] at h; cases h
    | ifc h _ => intro _; exact .ifc h
    | mp h => intro e; rw [e] at h; cases h
    | ifo _ ih => intro e; exact .ifo (ih e)
    | nb h => intro _; exact .nb h
    | mfn hn h _ => intro _; exact .mfn hn h
  exact key h rfl
theorem Rep.val {x y : Value} (h : Rep V M w β (.v x : D κ) y) : y = x ∧ okB x = true := by
  cases h with
  | v h => exact ⟨rfl, h⟩

/-! ## Labels -/

def D.keep0 (p : Nat → Bool) : D κ → D κ
  | .v x => .v x
  | .sl a b n f => .sl a b n f
  | .rc k => .rc k
  | .ref n f => .ref n f
  | .ptr k o => bif p k then .ptr k o else .opq
  | .elt k s i j => bif p k then .elt k s i j else .opq
  | .own k s o n => bif p k then .own k s o n else .opq
  | .ifc t d => .ifc t d
  | .mp k => bif p k then .mp k else .opq
  | .ifo t k s n => bif p k then .ifo t k s n else .opq
  | .mfn f fs => .mfn f fs
  | .und => .und
  | _ => .opq
def D.keep1 (p : Nat → Bool) : D κ → D κ
  | .agg cs => .agg (cs.map (D.keep0 p))
  | d => d.keep0 p
def D.keepB (p : Nat → Bool) : D κ → D κ
  | .tup cs => .tup (cs.map (D.keep1 p))
  | .fn f cs => .fn f (cs.map (D.keep1 p))
  | d => d.keep1 p

theorem beq_dec (i k : Nat) : Nat.beq i k = decide (i = k) := by
  by_cases h : i = k
  · subst h; simp
  · rw [decide_eq_false h]
    cases e : Nat.beq i k
    · rfl
    · exact absurd (Nat.eq_of_beq_eq_true e) h
theorem beq_no {i k : Nat} (h : ¬ i = k) : Nat.beq i k = false := by rw [beq_dec]; exact decide_eq_false h
theorem beq_yes (i : Nat) : Nat.beq i i = true := by rw [beq_dec]; exact decide_eq_true rfl

theorem map_some {α β : Type} {f : α → β} {cs : List α} {i : Nat} {d : β} (h : (cs.map f)[i]? = some d) : ∃ c, cs[i]? = some c ∧ f c = d := by
  rw [List.getElem?_map] at h
  obtain ⟨c, hc, rfl⟩ := Option.map_eq_some_iff.1 h
  exact ⟨c, hc, rfl⟩
theorem Rep.sl_at {sz by_ n : Nat} {f : Nat → Nat → D κ} {x : Value} (h : Rep V M w β (.sl sz by_ n f) x) : Rep V M w β' (.sl sz by_ n f) x := by
  cases h with
  | nil hc hA => exact .nil hc hA
  | sl u hc hm hb hu h => exact .sl u hc hm hb hu h
theorem Rep.keep0 {d : D κ} {x : Value} {p : Nat → Bool} (h : Rep V M w β d x) (hβ : ∀ k, p k = true → β' k = β k) : Rep V M w β' (d.keep0 p) x := by
  cases h with
  | v h => exact .v h
  | opq => exact .opq
  | und => exact .und
  | fn hn h => exact .opq
  | agg hn h1 h => exact .opq
  | tup hn h => exact .opq
  | nil hc hA => exact .nil hc hA
  | sl u hc hm hb hu h => exact .sl u hc hm hb hu h
  | rc h => exact .rc h.sl_at
  | ref u hu h => exact .ref u hu h
  | @ptr _ k o b c h =>
    simp only [D.keep0]
    cases e : p k
    · exact .opq
    · exact .ptr ((hβ k e).trans h)
  | @elt _ k s i j b c h =>
    simp only [D.keep0]
    cases e : p k
    · exact .opq
    · exact .elt ((hβ k e).trans h)
  | @own _ k s o n b c h hn hc =>
    simp only [D.keep0]
    cases e : p k
    · exact .opq
    · exact .own ((hβ k e).trans h) hn hc
  | @ownE _ k s o c A h hc hA =>
    simp only [D.keep0]
    cases e : p k
    · exact .opq
    · exact .ownE h hc hA
  | @ownNil _ k s h =>
    simp only [D.keep0]
    cases e : p k
    · exact .opq
    · exact .ownNil ((hβ k e).trans h)
  | ifc h => exact .ifc h
  | @mp _ k b c h =>
    simp only [D.keep0]
    cases e : p k
    · exact .opq
    · exact .mp ((hβ k e).trans h)
  | @ifo _ t k s n y h =>
    simp only [D.keep0]
    cases e : p k
    · exact .opq
    · cases h with
      | own h hn hc => exact .ifo (.own ((hβ k e).trans h) hn hc)
      | ownE h hc hA => exact .ifo (.ownE h hc hA)
      | ownNil h => exact .ifo (.ownNil ((hβ k e).trans h))
  | nb h => exact .opq
  | mfn hn h => exact .mfn hn h
theorem Rep.keep1 {d : D κ} {x : Value} {p : Nat → Bool} (h : Rep V M w β d x) (hβ : ∀ k, p k = true → β' k = β k) : Rep V M w β' (d.keep1 p) x := by
  have h' := h
  cases h with
  | agg hn h1 h =>
    refine .agg (by simpa using hn) (fun i hi => h1 i (by simpa using hi)) (fun i d hd => ?_)
    obtain ⟨c, hc, rfl⟩ := map_some hd
    exact (h i c hc).keep0 hβ
  | _ => exact h'.keep0 hβ
theorem Rep.keepB {d : D κ} {x : Value} {p : Nat → Bool} (h : Rep V M w β d x) (hβ : ∀ k, p k = true → β' k = β k) : Rep V M w β' (d.keepB p) x := by
  have h' := h
  cases h with
  | tup hn h =>
    refine .tup (by simpa using hn) (fun i d hd => ?_)
    obtain ⟨c, hc, rfl⟩ := map_some hd
    exact (h i c hc).keep1 hβ
  | fn hn h =>
    refine .fn (by simpa using hn) (fun i d hd => ?_)
    obtain ⟨c, hc, rfl⟩ := map_some hd
    exact (h i c hc).keep1 hβ
  | _ => exact h'.keep1 hβ
theorem Rep.ext {d : D κ} {x : Value} (h : Rep V M w β d x) (hβ : ∀ k p, β k = some p → β' k = some p) : Rep V M w β' d x := by
  induction h with
  | v h => exact .v h
  | opq => exact .opq
  | und => exact .und
  | fn hn _ ih => exact .fn hn (fun i d hd => ih i d hd hβ)
  | agg hn h1 _ ih => exact .agg hn h1 (fun i d hd => ih i d hd hβ)
  | tup hn _ ih => exact .tup hn (fun i d hd => ih i d hd hβ)
  | nil hc hA => exact .nil hc hA
  | sl u hc hm hb hu h _ => exact .sl u hc hm hb hu h
  | rc _ ih => exact .rc (ih hβ)
  | ref u hu h _ => exact .ref u hu h
  | ptr h => exact .ptr (hβ _ _ h)
  | elt h => exact .elt (hβ _ _ h)
  | own h hn hc => exact .own (hβ _ _ h) hn hc
  | ownE h hc hA => exact .ownE h hc hA
  | ownNil h => exact .ownNil (hβ _ _ h)
  | ifc h _ => exact .ifc h
  | mp h => exact .mp (hβ _ _ h)
  | ifo _ ih => exact .ifo (ih hβ)
  | nb h => exact .nb h
  | mfn hn h _ => exact .mfn hn h

def D.asSl (V : VW κ) (s b : Nat) : D κ → Option (Nat × Nat × Nat × (Nat → Nat → D κ))
  | .sl sz by_ n f => some (sz, by_, n, f)
  | .rc k => some (V k)
  | .v (.slice none 0 0) => some (s, b, 0, fun _ _ => .opq)
  | _ => none

theorem Rep.asSl {s b sz by_ n : Nat} {f : Nat → Nat → D κ} {d : D κ} {x : Value} (h : Rep V M w β d x) (hd : d.asSl V s b = some (sz, by_, n, f)) : Rep V M w β (.sl sz by_ n f) x := by
  cases h with
  | v h =>
    unfold D.asSl at hd
    split at hd <;> try contradiction
    rename_i he
    injection he with he
    subst he
    injection hd with hd
    injection hd with h1 hd
    injection hd with h2 hd
    injection hd with h3 hd
    subst h1 h2 h3 hd
    exact .nil (by decide) (fun _ => rfl)
  | sl u hc hm hb hu h =>
    simp only [D.asSl] at hd
    injection hd with hd
    injection hd with h1 hd
    injection hd with h2 hd
    injection hd with h3 hd
    subst h1 h2 h3 hd
    exact .sl u hc hm hb hu h
  | nil hc hA =>
    simp only [D.asSl] at hd
    injection hd with hd
    injection hd with h1 hd
    injection hd with h2 hd
    injection hd with h3 hd
    subst h1 h2 h3 hd
    exact .nil hc hA
  | rc h =>
    simp only [D.asSl] at hd
    injection hd with hd
    rw [hd] at h
    exact h
  | _ => simp [D.asSl] at hd

theorem Rep.slice {sz by_ n : Nat} {f : Nat → Nat → D κ} {x : Value} (h : Rep V M w β (.sl sz by_ n f) x) : ∃ A c, x = .slice A n c ∧ n ≤ c ∧ c ≤ maxLen ∧ n * by_ ≤ 140737488355328 ∧ (A = none → n = 0 ∧ c = 0) := by
  cases h with
  | nil hc hA => exact ⟨_, _, rfl, Nat.zero_le _, hc, by omega, fun h => ⟨rfl, hA h⟩⟩
  | sl u hc hm hb _ _ => exact ⟨_, _, rfl, hc, hm, hb, fun h => by cases h⟩
end

/-! ## Types -/

inductive KF where
  | str
  | int
  | arr (n : Nat)
inductive TyK where
  | int (k : IntKind)
  | bool
  | str
  | struct (fs : List (Nat × Nat))
  | arr (n e : Nat)
  | sl (e : Nat)
  | map (kf : KF) (k e : Nat)
  | ptr
  | ifc
  | func
  | other
structure TyI where
  k : TyK
  size : Nat
  bytes : Nat
  zero : Value
def TyI.isAgg (i : TyI) : Bool := match i.k with | .struct _ => true | .arr _ _ => true | _ => false

def TyI.known (i : TyI) : Bool := match i.k with | .other => false | _ => true
theorem TyI.known_ne {i : TyI} (h : i.known = true) : i.k ≠ .other := by
  intro e
  simp [TyI.known, e] at h

def KF.ok : KF → Value → Prop
  | .str, v => ∃ s : ByteArray, v = .string s ∧ s.size ≤ maxLen
  | .int, v => ∃ n : Int, v = .int .i64 n ∧ -9223372036854775808 ≤ n ∧ n ≤ 9223372036854775807
  | .arr n, v => ∃ l : List ByteArray, l.length = n ∧ v = .agg (l.map .string).toArray ∧ ∀ s ∈ l, s.size ≤ maxLen
def KOk (P : Program) (t : TypeId) : TyK → Prop
  | .int k => P.underlying t = some (.int k)
  | .bool => P.underlying t = some .bool
  | .str => P.underlying t = some .string
  | .sl e => P.underlying t = some (.slice e)
  | .arr n e => P.underlying t = some (.array n e)
  | .map kf k e => P.underlying t = some (.map k e) ∧ Go.Maps.Keyed P k ∧ ∀ v, kf.ok v → ∃ l, keyOf P k v = some l
  | .ptr => ∃ e, P.underlying t = some (.pointer e)
  | .ifc => ∃ ms, P.underlying t = some (.interface ms)
  | .func => ∃ a b c, P.underlying t = some (.func a b c)
  | .struct fs => ∃ fa : Array Field, P.underlying t = some (.struct fa) ∧ fs = fa.toList.map (fun F => (F.type, F.offset)) ∧ ∀ F ∈ fa.toList, ∃ i, P.info? F.type = some i ∧ i.size ≠ 0
  | .other => True
def TyOk (P : Program) (t : TypeId) (i : TyI) : Prop :=
  match i.k with
  | .other => True
  | k => KOk P t k ∧ 0 < i.bytes ∧ 0 < i.size ∧ i.zero.cells.size = i.size ∧ i.zero.cells.toList.all okB = true ∧ i.isAgg = (match i.zero with | .agg _ => true | _ => false) ∧ ∃ j, P.info? t = some j ∧ j.size = i.size ∧ j.bytes = i.bytes ∧ j.zero = some i.zero

/-! ## Contracts -/

/-! ## Contracts -/

structure Kp (B : Nat) (S : Nat → Prop) (w w' : World) : Prop where
  os : w'.os = w.os
  tape : w'.tape = w.tape
  output : w'.output = w.output
  size : w.heap.size ≤ w'.heap.size
  block : ∀ k, k < B → ¬ S k → w'.heap[k]? = w.heap[k]?
def noS : Nat → Prop := fun _ => False
theorem Kp.refl (B : Nat) (S : Nat → Prop) (w : World) : Kp B S w w := ⟨rfl, rfl, rfl, Nat.le_refl _, fun _ _ _ => rfl⟩
theorem Kp.trans {B : Nat} {S : Nat → Prop} {a b c : World} (h : Kp B S a b) (g : Kp B S b c) : Kp B S a c :=
  ⟨g.os.trans h.os, g.tape.trans h.tape, g.output.trans h.output, Nat.le_trans h.size g.size, fun k hk hs => (g.block k hk hs).trans (h.block k hk hs)⟩
theorem Kp.mono {B B' : Nat} {S S' : Nat → Prop} {a b : World} (h : Kp B S a b) (hB : B' ≤ B) (hS : ∀ k, k < B' → S k → S' k) : Kp B' S' a b :=
  ⟨h.os, h.tape, h.output, h.size, fun k hk hs => h.block k (by omega) (fun h => hs (hS k hk h))⟩
theorem Kp.of {B : Nat} {a b : World} (h : Below B a b) (S : Nat → Prop) : Kp B S a b := ⟨h.os, h.tape, h.output, h.size, fun k hk _ => h.block k hk⟩
theorem Kp.below {B : Nat} {a b : World} (h : Kp B noS a b) : Below B a b := ⟨h.os, h.tape, h.output, h.size, fun k hk => h.block k hk (fun h => h)⟩

structure Ln where
  blk : Nat → Prop
  pl : Bt
instance : CoeFun Ln (fun _ => Nat → Prop) := ⟨Ln.blk⟩
structure SOk (P : Program) (t : TypeId) : Prop where
  held : P.stoodInHeld t = false
  guard : P.eqGuardType P.depth t = false
  names : (P.fieldsOf t).toList.all (fun F => F.name != "_") = true
structure Cx (κ : Type) where
  P : Program
  V : VW κ
  nG : Nat
  G : World → Prop
  gsz : ∀ w, G w → nG ≤ w.heap.size
  keep : ∀ w w', G w → Kp nG noS w w' → G w'
  mixed : P.follows .mixedOrders = true
  MG : Nat → Nat → Prop
  mg : ∀ b o, MG b o → b < nG
  gv : Nat → D κ
  gok : ∀ w, G w → ∀ g, Rep V MG w b0 (gv g) (.pointer (some ⟨g, 0, none⟩))
  T : TypeId → TyI
  tok : ∀ t, TyOk P t (T t)
  se : TypeId → Bool
  sok : ∀ t, se t = true → SOk P t

inductive Ob (κ : Type) : Type where
  | cells (cs : List (D κ))
  | row (e n : Nat) (f : Nat → Nat → D κ)
  | map (t : Nat) (es : List (Value × D κ))
  | iter (m n : Nat) (seen : List Nat)
  | dead
def Ob.live {κ : Type} : Ob κ → Bool
  | .dead => false
  | _ => true

structure RepC {κ : Type} (V : VW κ) (M : Nat → Nat → Prop) (w : World) (β : Bt) (cs : List (D κ)) (arr : Array Value) : Prop where
  n : arr.size = cs.length
  o : ∀ i, i < cs.length → (arr.getD i undef).oneCell' = true
  r : ∀ i d, cs[i]? = some d → Rep V M w β d (arr.getD i undef)

def Vis (M : Nat → Nat → Prop) (b m : Nat) : Bool → Prop
  | false => ∀ q, ¬ M b q
  | true => ∀ q, q < m → M b q
def MapK {κ : Type} (X : Cx κ) (t : Nat) (es : List (Value × D κ)) : Prop := ∃ kf k e, (X.T t).k = .map kf k e ∧ (X.T e).known = true ∧ (∀ p ∈ es, kf.ok p.1) ∧ (es.map (·.1)).Nodup
def Bn (arr : Array MapEntry) (clk : Nat) : Prop := arr.toList.map (·.born) = List.range arr.size ∧ clk = arr.size
def PermZ {α : Type} : Bool → List α → List α → Prop
  | false, a, b => a = b
  | true, a, b => a.Perm b
def ObAt {κ : Type} (X : Cx κ) (M : Nat → Nat → Prop) (w : World) (β : Bt) (l : Nat) : Ob κ → Bool → Prop
  | .cells cs, z => ∃ b c arr T, β l = some (some (b, c)) ∧ w.heap[b]? = some (.cells arr T (0, 0)) ∧ RepC X.V M w β cs arr ∧ Vis M b cs.length z
  | .row e n f, z => (X.T e).known = true ∧ ((β l = some none ∧ n = 0) ∨ ∃ b c arr, β l = some (some (b, c)) ∧ w.heap[b]? = some (.cells arr e (0, 0)) ∧ arr.size = c * (X.T e).size ∧ n ≤ c ∧ c ≤ maxLen ∧ n * (X.T e).bytes ≤ 140737488355328 ∧
      (∀ i j, i < n → j < (X.T e).size → (arr.getD (i * (X.T e).size + j) undef).oneCell' = true ∧ Rep X.V M w b0 (f i j) (arr.getD (i * (X.T e).size + j) undef)) ∧ Vis M b (n * (X.T e).size) z)
  | .map t es, z => ∃ e0, PermZ z e0 es ∧ MapK X t e0 ∧ ∃ b c arr clk, β l = some (some (b, c)) ∧ w.heap[b]? = some (.map arr clk) ∧ arr.toList.map (·.key) = e0.map (·.1) ∧ (∀ i d, (e0.map (·.2))[i]? = some d → Rep X.V M w b0 d (arr.getD i default).val) ∧ (∀ q, ¬ M b q) ∧ Bn arr clk
  | .iter m n sn, z => z = false ∧ ∃ b c bm cm sa, β l = some (some (b, c)) ∧ w.heap[b]? = some (.mapIter (some bm) n sa n) ∧ β m = some (some (bm, cm)) ∧ sa.toList = sn.reverse ∧ ∀ q, ¬ M b q
  | .dead, _ => True

def Ent (P : Program) (f : FuncId) : Prop := ∃ fn c, P.funcs[f]? = some fn ∧ (fn.name == "runtime.NumGoroutine") = false ∧ fn.body = some c

structure Hp {κ : Type} (X : Cx κ) (M : Nat → Nat → Prop) (w : World) (β : Bt) (H : List (Nat × Ob κ)) : Prop where
  ob : ∀ l o, (l, o) ∈ H → o.live = true ∧ ObAt X M w β l o false
  ap : ∀ l o l' o' b c c', (l, o) ∈ H → (l', o') ∈ H → β l = some (some (b, c)) → β l' = some (some (b, c')) → l = l'
def blocks {κ : Type} (β : Bt) (H : List (Nat × Ob κ)) (b : Nat) : Prop := ∃ l o c, (l, o) ∈ H ∧ β l = some (some (b, c))

def SpH {κ : Type} (X : Cx κ) (f : FuncId) (ds : List (D κ)) (H : List (Nat × Ob κ)) (d : D κ) (H' : List (Nat × Ob κ)) : Prop :=
  Ent X.P f ∧ ∀ (M : Nat → Nat → Prop) (β : Bt) (w : World) (vs : Array Value), X.G w → (∀ b o, X.MG b o → M b o) → (∀ b o, M b o → b < w.heap.size) → vs.size = ds.length → (∀ i d, ds[i]? = some d → Rep X.V M w β d (vs.getD i undef)) →
    Hp X M w β H → (∀ b, blocks β H b → X.nG ≤ b) →
    Calls X.P f vs w fun e w' => ∃ x M' β', e = .returned x ∧ Kp w.heap.size (blocks β H) w w' ∧ (∀ l o, (l, o) ∈ H → β' l = β l) ∧ (∀ b o, M b o → M' b o) ∧ (∀ b o, M' b o → M b o ∨ blocks β H b ∨ (w.heap.size ≤ b ∧ b < w'.heap.size)) ∧
      Rep X.V M' w' β' d x ∧ Hp X M' w' β' H' ∧ (∀ b, blocks β' H' b → blocks β H b ∨ w.heap.size ≤ b)
def SpHX {κ : Type} (X : Cx κ) (f : FuncId) (ds : List (D κ)) (H : List (Nat × Ob κ)) (d : D κ) (H' : List (Nat × Ob κ)) : Prop :=
  ∀ (M : Nat → Nat → Prop) (β : Bt) (w : World) (vs : Array Value), X.G w → (∀ b o, X.MG b o → M b o) → (∀ b o, M b o → b < w.heap.size) → vs.size = ds.length → (∀ i d, ds[i]? = some d → Rep X.V M w β d (vs.getD i undef)) →
    Hp X M w β H → (∀ b, blocks β H b → X.nG ≤ b) →
    ∃ x w' M' β', (callFunc f vs).run X.P w = .ok (.value x) w' ∧ Kp w.heap.size (blocks β H) w w' ∧ (∀ l o, (l, o) ∈ H → β' l = β l) ∧ (∀ b o, M b o → M' b o) ∧ (∀ b o, M' b o → M b o ∨ blocks β H b ∨ (w.heap.size ≤ b ∧ b < w'.heap.size)) ∧
      Rep X.V M' w' β' d x ∧ Hp X M' w' β' H' ∧ (∀ b, blocks β' H' b → blocks β H b ∨ w.heap.size ≤ b)
def SpL {κ : Type} (X : Cx κ) (f : FuncId) (ds : List (D κ)) (H : List (Nat × Ob κ)) (d : D κ) (H' : List (Nat × Ob κ)) : Prop := SpH X f ds H d H' ∨ SpHX X f ds H d H'
def SpX {κ : Type} (X : Cx κ) (f : FuncId) (ds : List (D κ)) (d : D κ) : Prop :=
  ∀ (M : Nat → Nat → Prop) (β : Bt) (w : World) (vs : Array Value), vs.size = ds.length → (∀ i d, ds[i]? = some d → Rep X.V M w β d (vs.getD i undef)) → ∃ x, (callFunc f vs).run X.P w = .ok (.value x) w ∧ Rep X.V M w β d x
def Sp {κ : Type} (X : Cx κ) (f : FuncId) (ds : List (D κ)) (d : D κ) : Prop := SpH X f ds [] d [] ∨ SpX X f ds d
end Go.Proofs.YteojgenhgjhohaaDoor
