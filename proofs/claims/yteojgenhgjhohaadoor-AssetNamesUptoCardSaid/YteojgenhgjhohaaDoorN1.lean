/-
  A call's state as data, over any program: what its slots hold, its own objects; what it is for a frame and a world to be in such a state; how states change.
-/
import Derived.Test.YteojgenhgjhohaaDoorN0
namespace Go.Proofs.YteojgenhgjhohaaDoor
open Go.RowKit
set_option linter.unusedVariables false
set_option linter.unusedSimpArgs false

structure St (κ : Type) where
  fr : Nat → D κ
  ob : Nat → Option (Ob κ × Bool)
  gv : Nat → D κ

section
variable {κ : Type}
def fD (d : D κ) (K : D κ → Prop) : Prop :=
  match d with
  | .v x => K (.v x)
  | .agg cs => K (.agg cs)
  | .tup cs => K (.tup cs)
  | .sl sz b n f => K (.sl sz b n f)
  | .rc k => K (.rc k)
  | .ref n f => K (.ref n f)
  | .fn f cs => K (.fn f cs)
  | .ptr l o => K (.ptr l o)
  | .elt l s k j => K (.elt l s k j)
  | .own l s o n => K (.own l s o n)
  | .ifc t d => K (.ifc t d)
  | .mp l => K (.mp l)
  | .ifo t l s n => K (.ifo t l s n)
  | .nb w n => K (.nb w n)
  | .mfn f fs => K (.mfn f fs)
  | .und => K .und
  | .opq => K .opq
def fL : List (D κ) → (List (D κ) → Prop) → Prop
  | [], K => K []
  | d :: r, K => fD d fun d => fL r fun r => K (d :: r)
def fN (n : Nat) (K : Nat → Prop) : Prop :=
  match n with
  | 0 => K 0
  | n + 1 => K (n + 1)
theorem fD_eq (d : D κ) (K : D κ → Prop) : fD d K = K d := by cases d <;> rfl
theorem fL_eq : ∀ (l : List (D κ)) (K : List (D κ) → Prop), fL l K = K l
  | [], _ => rfl
  | d :: r, K => by rw [fL, fD_eq, fL_eq r]
theorem fN_eq (n : Nat) (K : Nat → Prop) : fN n K = K n := by cases n <;> rfl

abbrev facW (p A : Prop) : Prop := p → A
theorem facW_intro {p A : Prop} (h : p → A) : facW p A := h
def condW (b : Bool) (A B : Prop) : Prop := match b with | true => A | false => B
theorem condW_dec {p : Prop} [Decidable p] {A B : Prop} (h : p → A) (g : ¬ p → B) : condW (decide p) A B := by
  unfold condW
  by_cases hp : p
  · rw [decide_eq_true hp]; exact h hp
  · rw [decide_eq_false hp]; exact g hp
theorem condW_not {b : Bool} {A B : Prop} (h : condW b B A) : condW (!b) A B := by cases b <;> exact h
theorem condW_bool {b : Bool} {A B : Prop} (h : b = true → A) (g : b = false → B) : condW b A B := by
  cases b
  · exact g rfl
  · exact h rfl
theorem condW_spec {b : Bool} {A B : Prop} (h : condW b A B) : (b = true ∧ A) ∨ (b = false ∧ B) := by
  cases b
  · exact .inr ⟨rfl, h⟩
  · exact .inl ⟨rfl, h⟩

theorem condW_no {b : Bool} {A : Prop} (h : condW b A False) : b = true ∧ A := by
  cases b
  · exact h.elim
  · exact ⟨rfl, h⟩

def St.ev (σ : St κ) : Operand → D κ
  | .tmp t => σ.fr t
  | .const x => match okB x with | true => .v x | false => .opq
  | .func f => .fn f []
  | .global g => σ.gv g
def St.put (σ : St κ) (dst : Option Nat) (d : D κ) : St κ :=
  match dst with
  | none => σ
  | some k => { fr := fun i => bif Nat.beq i k then d else σ.fr i, ob := σ.ob, gv := σ.gv }
def St.setOb (σ : St κ) (l : Nat) (o : Ob κ) (z : Bool) : St κ where
  fr := σ.fr
  ob := fun k => bif Nat.beq k l then some (o, z) else σ.ob k
  gv := σ.gv

def setCells (cs : List (D κ)) (o : Nat) : List (D κ) → List (D κ)
  | [] => cs
  | d :: r => setCells (cs.set o d) (o + 1) r
def D.cells : D κ → List (D κ)
  | .agg cs => cs
  | d => [d]
def D.one : D κ → Bool
  | .v _ => true
  | .sl _ _ _ _ => true
  | .rc _ => true
  | .fn _ _ => true
  | .ptr _ _ => true
  | .elt _ _ _ _ => true
  | .own _ _ _ _ => true
  | .ifc _ _ => true
  | .mp _ => true
  | .ifo _ _ _ _ => true
  | .mfn _ _ => true
  | _ => false
def D.good : D κ → Bool
  | .agg _ => true
  | d => d.one

structure Sim (X : Cx κ) (M0 : Nat → Nat → Prop) (S0 : Ln) (w0 : World) (N : Nat) (M : Nat → Nat → Prop) (β : Bt) (σ : St κ) (a : Act) (w : World) : Prop where
  kp : Kp w0.heap.size S0.blk w0 w
  df : a.defers = []
  sz : a.tmps.size = N
  m0 : ∀ b o, M0 b o → M b o
  mN : ∀ b o, M b o → M0 b o ∨ w0.heap.size ≤ b ∨ S0 b
  mlt : ∀ b o, M b o → b < w.heap.size
  fr : ∀ i, Rep X.V M w β (σ.fr i) (a.tmps.getD i undef)
  ob : ∀ l o z, σ.ob l = some (o, z) → ObAt X M w β l o z
  oB : ∀ l o z b c, σ.ob l = some (o, z) → o.live = true → β l = some (some (b, c)) → w0.heap.size ≤ b ∨ S0 b
  oi : ∀ l l' o o' z z' b c c', σ.ob l = some (o, z) → o.live = true → σ.ob l' = some (o', z') → o'.live = true → β l = some (some (b, c)) → β l' = some (some (b, c')) → l = l'
  un : ∀ l, σ.ob l = none → β l = none
  gv : ∀ g, Rep X.V M w b0 (σ.gv g) (.pointer (some ⟨g, 0, none⟩))
  le : ∀ l p, S0.pl l = some p → β l = some p

section
variable {X : Cx κ} {M0 M M' : Nat → Nat → Prop} {S0 : Ln} {w0 w w' : World} {N : Nat} {β β' : Bt} {σ : St κ} {a : Act}

theorem getD_put (a : Act) (k i : Nat) (x : Value) (hk : k < a.tmps.size) : (a.put (some k) x).tmps.getD i undef = if i = k then x else a.tmps.getD i undef := by
  simp only [Act.put]
  by_cases h : i = k
  · subst h
    rw [if_pos rfl]
    simp [Array.getD, hk]
  · rw [if_neg h]
    by_cases hi : i < a.tmps.size
    · simp [Array.getD, hi, Array.getElem_setIfInBounds_ne _ (Ne.symm h)]
    · simp [Array.getD, hi]

theorem Sim.put (h : Sim X M0 S0 w0 N M β σ a w) {dst : Option Nat} {d : D κ} {x : Value} (hd : ∀ k, dst = some k → k < N) (hr : Rep X.V M w β d x) : Sim X M0 S0 w0 N M β (σ.put dst d) (a.put dst x) w := by
  cases dst with
  | none => exact h
  | some k =>
    have hk := hd k rfl
    have hg := fun i => getD_put a k i x (by rw [h.sz]; exact hk)
    refine { h with sz := by simp [Act.put, h.sz], fr := ?_, df := h.df, ob := h.ob, oB := h.oB, oi := h.oi, un := h.un, gv := h.gv, le := h.le }
    intro i
    rw [hg]
    by_cases e : i = k
    · subst e
      simp only [St.put, beq_yes, cond_true, if_true]
      exact hr
    · simp only [St.put, beq_no e, cond_false, if_neg e]
      exact h.fr i

theorem Vis.mono {b m : Nat} {z : Bool} (h : Vis M b m z) (hM : ∀ o, M b o → M' b o) (hN : ∀ o, M' b o → M b o) : Vis M' b m z := by
  cases z with
  | false => exact fun q hq => h q (hN q hq)
  | true => exact fun q hq => hM q (h q hq)
theorem RepC.mono {V : VW κ} {cs : List (D κ)} {arr : Array Value} (h : RepC V M w β cs arr) (hM : ∀ b o, M b o → M' b o) (hw : ∀ b o, M b o → w'.cell? ⟨b, o, none⟩ = w.cell? ⟨b, o, none⟩) : RepC V M' w' β cs arr :=
  ⟨h.n, h.o, fun i d hd => (h.r i d hd).mono hM hw⟩
theorem ObAt.mono {l : Nat} {o : Ob κ} {z : Bool} (h : ObAt X M w β l o z) (hM : ∀ b o, M b o → M' b o) (hw : ∀ b o, M b o → w'.cell? ⟨b, o, none⟩ = w.cell? ⟨b, o, none⟩) (hβ : ∀ k p, β k = some p → β' k = some p)
    (hb : o.live = true → ∀ b c, β l = some (some (b, c)) → b < w.heap.size → w'.heap[b]? = w.heap[b]? ∧ ∀ o, M' b o → M b o) : ObAt X M' w' β' l o z := by
  cases o with
  | cells cs =>
    obtain ⟨b, c, arr, T, h1, h2, h3, h4⟩ := h
    obtain ⟨g1, g2⟩ := hb rfl b c h1 (Array.getElem?_eq_some_iff.1 h2).1
    exact ⟨b, c, arr, T, hβ _ _ h1, g1.trans h2, ⟨h3.n, h3.o, fun i d hd => ((h3.r i d hd).mono hM hw).ext hβ⟩, h4.mono (hM b) g2⟩
  | row e n f =>
    obtain ⟨hk, h⟩ := h
    refine ⟨hk, ?_⟩
    rcases h with ⟨h1, h2⟩ | ⟨b, c, arr, h1, h2, h3, h4, h5, h6, h7, h8⟩
    · exact .inl ⟨hβ _ _ h1, h2⟩
    · obtain ⟨g1, g2⟩ := hb rfl b c h1 (Array.getElem?_eq_some_iff.1 h2).1
      exact .inr ⟨b, c, arr, hβ _ _ h1, g1.trans h2, h3, h4, h5, h6, fun i j hi hj => ⟨(h7 i j hi hj).1, (h7 i j hi hj).2.mono hM hw⟩, h8.mono (hM b) g2⟩
  | map t es =>
    obtain ⟨e0, hz, hk, b, c, arr, clk, h1, h2, h3, h4, h5⟩ := h
    obtain ⟨g1, g2⟩ := hb rfl b c h1 (Array.getElem?_eq_some_iff.1 h2).1
    exact ⟨e0, hz, hk, b, c, arr, clk, hβ _ _ h1, g1.trans h2, h3, fun i d hd => (h4 i d hd).mono hM hw, fun q hq => h5.1 q (g2 q hq), h5.2⟩
  | iter m n sn =>
    obtain ⟨hz, b, c, bm, cm, sa, h1, h2, h3, h4, h5⟩ := h
    obtain ⟨g1, g2⟩ := hb rfl b c h1 (Array.getElem?_eq_some_iff.1 h2).1
    exact ⟨hz, b, c, bm, cm, sa, hβ _ _ h1, g1.trans h2, hβ _ _ h3, h4, fun q hq => h5 q (g2 q hq)⟩
  | dead => trivial
theorem St.setOb_ob {l k : Nat} {o : Ob κ} {z : Bool} {p : Ob κ × Bool} (h : (σ.setOb l o z).ob k = some p) : (k = l ∧ p = (o, z)) ∨ (k ≠ l ∧ σ.ob k = some p) := by
  by_cases e : k = l
  · subst e
    simp only [St.setOb, beq_yes, cond_true, Option.some.injEq] at h
    exact .inl ⟨rfl, h.symm⟩
  · simp only [St.setOb, beq_no e, cond_false] at h
    exact .inr ⟨e, h⟩
theorem Sim.add (h : Sim X M0 S0 w0 N M β σ a w) {l : Nat} {o : Ob κ} {z : Bool} (ho : ObAt X M w β l o z) (hB : o.live = true → ∀ b c, β l = some (some (b, c)) → w0.heap.size ≤ b ∨ S0 b)
    (hi : o.live = true → ∀ k o' z' b c c', k ≠ l → σ.ob k = some (o', z') → o'.live = true → β k = some (some (b, c)) → β l ≠ some (some (b, c'))) : Sim X M0 S0 w0 N M β (σ.setOb l o z) a w := by
  refine { h with fr := h.fr, df := h.df, ob := fun k o' z' hk => ?_, oB := fun k o' z' b c hk hv hb => ?_, oi := fun k k' o1 o2 z1 z2 b c c' hk hv hk' hv' hb hb' => ?_, un := fun k hk => ?_, gv := h.gv, le := h.le }
  · rcases St.setOb_ob hk with ⟨rfl, e⟩ | ⟨_, hk⟩
    · injection e with e1 e2
      subst e1 e2
      exact ho
    · exact h.ob k o' z' hk
  · rcases St.setOb_ob hk with ⟨rfl, e⟩ | ⟨_, hk⟩
    · injection e with e1 e2
      subst e1
      exact hB hv b c hb
    · exact h.oB k o' z' b c hk hv hb
  · rcases St.setOb_ob hk with ⟨e0, e⟩ | ⟨e1, hk1⟩ <;> rcases St.setOb_ob hk' with ⟨e0', e'⟩ | ⟨e2, hk2⟩
    · exact e0.trans e0'.symm
    · injection e with e3 _; subst e0 e3; exact absurd hb (hi hv k' o2 z2 b c' c e2 hk2 hv' hb')
    · injection e' with e3 _; subst e0' e3; exact absurd hb' (hi hv' k o1 z1 b c c' e1 hk1 hv hb)
    · exact h.oi k k' o1 o2 z1 z2 b c c' hk1 hv hk2 hv' hb hb'
  · by_cases e : k = l
    · subst e; simp [St.setOb, beq_yes] at hk
    · simp only [St.setOb, beq_no e, cond_false] at hk
      exact h.un k hk
theorem St.ext' {a b : St κ} (h1 : ∀ i, a.fr i = b.fr i) (h3 : ∀ l, a.ob l = b.ob l) (h2 : a.gv = b.gv) : a = b := by
  cases a; cases b
  simp only [St.mk.injEq]
  exact ⟨funext h1, funext h3, h2⟩
theorem Sim.unperm (h : Sim X M0 S0 w0 N M β σ a w) {l t : Nat} {es : List (Value × D κ)} (hl : σ.ob l = some (.map t es, true)) : ∃ e0, e0.Perm es ∧ Sim X M0 S0 w0 N M β (σ.setOb l (.map t e0) false) a w := by
  obtain ⟨e0, hp, hk, b, c, arr, clk, h1, h2⟩ := h.ob l _ _ hl
  exact ⟨e0, hp, h.add ⟨e0, rfl, hk, b, c, arr, clk, h1, h2⟩ (fun _ b c hb => h.oB l _ _ b c hl rfl hb) (fun _ k o' z' b c c' hne hk hv hb hb' => hne (h.oi k l _ _ _ _ b c c' hk hv hl rfl hb hb'))⟩
theorem Sim.reperm (h : Sim X M0 S0 w0 N M β σ a w) {l t : Nat} {e0 es : List (Value × D κ)} (hl : σ.ob l = some (.map t e0, false)) (hp : e0.Perm es) : Sim X M0 S0 w0 N M β (σ.setOb l (.map t es) true) a w := by
  obtain ⟨_, rfl, hk, b, c, arr, clk, h1, h2⟩ := h.ob l _ _ hl
  exact h.add ⟨_, hp, hk, b, c, arr, clk, h1, h2⟩ (fun _ b c hb => h.oB l _ _ b c hl rfl hb) (fun _ k o' z' b c c' hne hk hv hb hb' => hne (h.oi k l _ _ _ _ b c c' hk hv hl rfl hb hb'))
theorem Sim.die (h : Sim X M0 S0 w0 N M β σ a w) (l : Nat) : Sim X M0 S0 w0 N M β (σ.setOb l .dead false) a w := h.add trivial (fun h => by cases h) (fun h => by cases h)

theorem heap_lt {w : World} {b : Nat} {o : Obj} (h : w.heap[b]? = some o) : b < w.heap.size := (Array.getElem?_eq_some_iff.1 h).1
theorem ObAt.lt {l : Nat} {o : Ob κ} {z : Bool} {b c : Nat} (h : ObAt X M w β l o z) (hv : o.live = true) (hb : β l = some (some (b, c))) : b < w.heap.size := by
  cases o with
  | cells cs =>
    obtain ⟨b', c', arr, T, h1, h2, _⟩ := h
    rw [hb] at h1
    injection h1 with h1
    injection h1 with h1
    injection h1 with h1 _
    rw [h1]; exact heap_lt h2
  | row e n f =>
    obtain ⟨_, h⟩ := h
    rcases h with ⟨h1, _⟩ | ⟨b', c', arr, h1, h2, _⟩
    · rw [hb] at h1; cases h1
    · rw [hb] at h1
      injection h1 with h1
      injection h1 with h1
      injection h1 with h1 _
      rw [h1]; exact heap_lt h2
  | map t es =>
    obtain ⟨_, _, _, b', c', arr, clk, h1, h2, _⟩ := h
    rw [hb] at h1
    injection h1 with h1
    injection h1 with h1
    injection h1 with h1 _
    rw [h1]; exact heap_lt h2
  | iter m n sn =>
    obtain ⟨_, b', c', bm, cm, sa, h1, h2, _⟩ := h
    rw [hb] at h1
    injection h1 with h1
    injection h1 with h1
    injection h1 with h1 _
    rw [h1]; exact heap_lt h2
  | dead => cases hv
theorem Kp.cell {B : Nat} {S : Nat → Prop} (h : Kp B S w w') {b o : Nat} (hb : b < B) (hs : ¬ S b) : w'.cell? ⟨b, o, none⟩ = w.cell? ⟨b, o, none⟩ :=
  World.cell?_of_block (w := w) (a := ⟨b, o, none⟩) (h.block b hb hs)

theorem Sim.world (h : Sim X M0 S0 w0 N M β σ a w) (Sb : Nat → Prop) (hk : Kp w.heap.size Sb w w') (hS : ∀ b, Sb b → w0.heap.size ≤ b ∨ S0 b) (hM0 : ∀ b o, Sb b → ¬ M b o) (hO : ∀ l o z b c, σ.ob l = some (o, z) → o.live = true → β l = some (some (b, c)) → ¬ Sb b)
    (hM : ∀ b o, M b o → M' b o) (hN : ∀ b o, M' b o → M b o ∨ (w.heap.size ≤ b ∧ b < w'.heap.size)) : Sim X M0 S0 w0 N M' β σ a w' := by
  have hw : ∀ b o, M b o → w'.cell? ⟨b, o, none⟩ = w.cell? ⟨b, o, none⟩ := fun b o hm => hk.cell (h.mlt b o hm) (fun hs => hM0 b o hs hm)
  have hsz := h.kp.size
  refine ⟨h.kp.trans (hk.mono hsz (fun b hb hs => ?_)), h.df, h.sz, fun b o hm => hM _ _ (h.m0 b o hm), ?_, ?_, fun i => (h.fr i).mono hM hw, ?_, h.oB, h.oi, h.un, fun g => (h.gv g).mono hM hw, h.le⟩
  · rcases hS b hs with h1 | h1
    · omega
    · exact h1
  · intro b o hm
    rcases hN b o hm with hm | ⟨hm, _⟩
    · exact h.mN b o hm
    · exact .inr (.inl (by omega))
  · intro b o hm
    rcases hN b o hm with hm | ⟨_, hm⟩
    · have := h.mlt b o hm
      have := hk.size
      omega
    · exact hm
  · intro l o z hl
    refine (h.ob l o z hl).mono hM hw (fun _ _ h => h) (fun hv b c hb hlt => ⟨hk.block b hlt (hO l o z b c hl hv hb), fun q hq => ?_⟩)
    rcases hN b q hq with hm | ⟨hm, _⟩
    · exact hm
    · omega
theorem Sim.freeze (h : Sim X M0 S0 w0 N M β σ a w) {l e n : Nat} {f : Nat → Nat → D κ} {z : Bool} (hl : σ.ob l = some (.row e n f, z)) :
    ∃ M', (∀ b o, M b o → M' b o) ∧ Sim X M0 S0 w0 N M' β (σ.setOb l (.row e n f) true) a w := by
  obtain ⟨hk, hob⟩ := h.ob l _ z hl
  let M' : Nat → Nat → Prop := fun b o => M b o ∨ ∃ c, β l = some (some (b, c)) ∧ o < n * (X.T e).size
  have hM : ∀ b o, M b o → M' b o := fun b o hm => .inl hm
  have hN : ∀ b o, M' b o → M b o ∨ ∃ c, β l = some (some (b, c)) := fun b o hm => hm.imp id (fun ⟨c, h1, _⟩ => ⟨c, h1⟩)
  have hl' := h.ob l _ z hl
  refine ⟨M', hM, ⟨h.kp, h.df, h.sz, fun b o hm => .inl (h.m0 b o hm), ?_, ?_, fun i => (h.fr i).mono hM (fun _ _ _ => rfl), ?_, ?_, ?_, ?_, fun g => (h.gv g).mono hM (fun _ _ _ => rfl), h.le⟩⟩
  · intro b o hm
    rcases hN b o hm with hm | ⟨c, hc⟩
    · exact h.mN b o hm
    · exact .inr (h.oB l _ z b c hl rfl hc)
  · intro b o hm
    rcases hN b o hm with hm | ⟨c, hc⟩
    · exact h.mlt b o hm
    · exact hl'.lt rfl hc
  · intro k o z' hk'
    rcases St.setOb_ob hk' with ⟨e0, e'⟩ | ⟨hne, hk'⟩
    · injection e' with e1 e2
      subst e0 e1 e2
      refine ⟨hk, ?_⟩
      rcases hob with h1 | ⟨b, c, arr, h1, h2, h3, h4, h5, h6, h7, h8⟩
      · exact .inl h1
      · exact .inr ⟨b, c, arr, h1, h2, h3, h4, h5, h6, fun i j hi hj => ⟨(h7 i j hi hj).1, (h7 i j hi hj).2.mono hM (fun _ _ _ => rfl)⟩, fun q hq => .inr ⟨c, h1, hq⟩⟩
    · refine (h.ob k o z' hk').mono hM (fun _ _ _ => rfl) (fun _ _ h => h) (fun hv b c hb hlt => ⟨rfl, fun q hq => ?_⟩)
      rcases hN b q hq with hm | ⟨c', hc'⟩
      · exact hm
      · exact absurd (h.oi k l _ _ _ _ b c c' hk' hv hl rfl hb hc') hne
  · intro k o' z' b c hk' hv hb
    rcases St.setOb_ob hk' with ⟨e0, _⟩ | ⟨_, hk'⟩
    · subst e0; exact h.oB k _ z b c hl rfl hb
    · exact h.oB k o' z' b c hk' hv hb
  · intro k k' o1 o2 z1 z2 b c c' hk1 hv1 hk2 hv2 hb hb'
    rcases St.setOb_ob hk1 with ⟨e1, _⟩ | ⟨_, hk3⟩ <;> rcases St.setOb_ob hk2 with ⟨e2, _⟩ | ⟨_, hk4⟩
    · exact e1.trans e2.symm
    · subst e1; exact h.oi _ _ _ _ _ _ b c c' hl rfl hk4 hv2 hb hb'
    · subst e2; exact h.oi _ _ _ _ _ _ b c c' hk3 hv1 hl rfl hb hb'
    · exact h.oi _ _ _ _ _ _ b c c' hk3 hv1 hk4 hv2 hb hb'
  · intro k hk'
    by_cases e0 : k = l
    · subst e0; simp [St.setOb, beq_yes] at hk'
    · simp only [St.setOb, beq_no e0, cond_false] at hk'
      exact h.un k hk'

theorem Sim.ev (h : Sim X M0 S0 w0 N M β σ a w) (x : Operand) : Rep X.V M w β (σ.ev x) (a.eval x) := by
  cases x with
  | tmp t => exact h.fr t
  | const v =>
    show Rep X.V M w β (match okB v with | true => .v v | false => .opq) v
    split
    · rename_i hv; exact .v hv
    · exact .opq
  | func f => exact .fn rfl (fun i d h => by simp at h)
  | global g => exact (h.gv g).of_b0
end
end
end Go.Proofs.YteojgenhgjhohaaDoor
