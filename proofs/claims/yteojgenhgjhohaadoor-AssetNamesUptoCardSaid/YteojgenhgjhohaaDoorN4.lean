/-
  Own objects come, change and go, over any program.
-/
import Derived.Test.YteojgenhgjhohaaDoorN3
import Derived.Laws.Alloc2
import Derived.Laws.NewBlocks
import Derived.Laws.CopyRow
import Derived.Laws.AppendOwn
import Derived.Deep.AppendSrc
namespace Go.Proofs.YteojgenhgjhohaaDoor
open Go.RowKit
set_option linter.unusedVariables false
set_option linter.unusedSimpArgs false

section
variable {κ : Type} {X : Cx κ} {M0 M : Nat → Nat → Prop} {S0 : Ln} {w0 w w' : World} {N : Nat} {β : Bt} {σ : St κ} {a : Act}

def upd (β : Bt) (l : Nat) (p : Option (Nat × Nat)) : Bt := fun k => if k = l then some p else β k
theorem upd_at (β : Bt) (l : Nat) (p : Option (Nat × Nat)) : upd β l p l = some p := by simp [upd]
theorem upd_ne (β : Bt) (l : Nat) (p : Option (Nat × Nat)) : ∀ k, k ≠ l → upd β l p k = β k := fun k h => by simp [upd, h]

theorem upd_ext {l : Nat} {p : Option (Nat × Nat)} (h : β l = none) : ∀ k q, β k = some q → upd β l p k = some q := fun k q hk => by
  by_cases e : k = l
  · rw [e, h] at hk; cases hk
  · rw [upd_ne _ _ _ k e]; exact hk
theorem set_set {l : Nat} {o o' : Ob κ} {z z' : Bool} : (σ.setOb l o' z').setOb l o z = σ.setOb l o z := by
  simp only [St.setOb, St.mk.injEq, true_and, and_true]
  funext k
  cases Nat.beq k l <;> rfl
theorem Sim.lab (h : Sim X M0 S0 w0 N M β σ a w) {l : Nat} (hl : σ.ob l = none) (p : Option (Nat × Nat)) : Sim X M0 S0 w0 N M (upd β l p) (σ.setOb l .dead false) a w := by
  have hβ := upd_ext (p := p) (h.un l hl)
  have back : ∀ k o z, (σ.setOb l .dead false).ob k = some (o, z) → o.live = true → σ.ob k = some (o, z) ∧ upd β l p k = β k := fun k o z hk hv => by
    rcases St.setOb_ob hk with ⟨_, e⟩ | ⟨hne, hk⟩
    · injection e with e _
      subst e
      cases hv
    · exact ⟨hk, upd_ne _ _ _ k hne⟩
  refine ⟨h.kp, h.df, h.sz, h.m0, h.mN, h.mlt, fun i => (h.fr i).ext hβ, ?_, ?_, ?_, ?_, h.gv, fun k q hk => hβ k q (h.le k q hk)⟩
  · intro k o z hk
    rcases St.setOb_ob hk with ⟨rfl, e⟩ | ⟨hne, hk⟩
    · injection e with e _
      subst e
      trivial
    · refine (h.ob k o z hk).mono (fun _ _ h => h) (fun _ _ _ => rfl) hβ (fun _ _ _ _ _ => ⟨rfl, fun _ h => h⟩)
  · intro k o z b c hk hv hb
    obtain ⟨hk, e⟩ := back k o z hk hv
    exact h.oB k o z b c hk hv (e.symm.trans hb)
  · intro k k' o1 o2 z1 z2 b c c' hk hv hk' hv' hb hb'
    obtain ⟨hk, e⟩ := back k o1 z1 hk hv
    obtain ⟨hk', e'⟩ := back k' o2 z2 hk' hv'
    exact h.oi k k' o1 o2 z1 z2 b c c' hk hv hk' hv' (e.symm.trans hb) (e'.symm.trans hb')
  · intro k hk
    by_cases e : k = l
    · subst e; simp [St.setOb, beq_yes] at hk
    · simp only [St.setOb, beq_no e, cond_false] at hk
      rw [upd_ne _ _ _ k e]
      exact h.un k hk

theorem Sim.fresh (h : Sim X M0 S0 w0 N M β σ a w) {l c : Nat} {o : Ob κ} (hl : σ.ob l = none) (hk : Kp w.heap.size noS w w') (ho : ObAt X M w' (upd β l (some (w.heap.size, c))) l o false) : Sim X M0 S0 w0 N M (upd β l (some (w.heap.size, c))) (σ.setOb l o false) a w' := by
  have h1 := h.lab hl (some (w.heap.size, c))
  have h2 := h1.world (w' := w') (M' := M) noS hk (fun b hb => hb.elim) (fun b o hb => hb.elim) (fun l o z b c _ _ _ hb => hb) (fun _ _ h => h) (fun _ _ h => .inl h)
  have h3 := h2.add (l := l) (o := o) (z := false) ho (fun _ b c' hb => by
    rw [upd_at] at hb
    injection hb with hb
    injection hb with hb
    injection hb with hb _
    exact .inl (hb ▸ h.kp.size)) (fun _ k o' z' b c1 c2 hne hk' hv hb hb' => by
    rw [upd_at] at hb'
    injection hb' with hb'
    injection hb' with hb'
    injection hb' with hb' _
    have := (h1.ob k o' z' hk').lt hv hb
    omega)
  rwa [set_set] at h3
theorem Sim.freshNil (h : Sim X M0 S0 w0 N M β σ a w) {l e : Nat} {f : Nat → Nat → D κ} (hl : σ.ob l = none) (hk : (X.T e).known = true) : Sim X M0 S0 w0 N M (upd β l none) (σ.setOb l (.row e 0 f) false) a w := by
  have h3 := (h.lab hl none).add (l := l) (o := .row e 0 f) (z := false) ⟨hk, .inl ⟨upd_at _ _ _, rfl⟩⟩ (fun _ b c' hb => by rw [upd_at] at hb; cases hb) (fun _ k o' z' b c1 c2 hne hk' hv hb hb' => by rw [upd_at] at hb'; cases hb')
  rwa [set_set] at h3

theorem cell_setRow_other (w : World) (g k o : Nat) (arr : Array Value) (h : k ≠ g) : (w.setRow g arr).cell? ⟨k, o, none⟩ = w.cell? ⟨k, o, none⟩ :=
  World.cell?_of_block (w := w) (setRow_other w g k arr h)
theorem Kp.setRow (B : Nat) (w : World) (g : Nat) (arr : Array Value) : Kp B (fun b => b = g) w (w.setRow g arr) :=
  ⟨rfl, rfl, rfl, by simp [World.setRow], fun k _ hk => setRow_other w g k arr hk⟩
theorem Sim.row_world (h : Sim X M0 S0 w0 N M β σ a w) {b : Nat} (arr' : Array Value) (hB : w0.heap.size ≤ b ∨ S0 b) (hM : ∀ o, ¬ M b o) (hO : ∀ l o z b' c, σ.ob l = some (o, z) → o.live = true → β l = some (some (b', c)) → b' ≠ b) : Sim X M0 S0 w0 N M β σ a (w.setRow b arr') :=
  h.world (fun k => k = b) (Kp.setRow _ w b arr') (fun k hk => hk ▸ hB) (fun k o hk => hk ▸ hM o) hO (fun _ _ h => h) (fun _ _ h => .inl h)
theorem ObAt.hid {l : Nat} {o : Ob κ} {b c : Nat} (h : ObAt X M w β l o false) (hv : o.live = true) (hb : β l = some (some (b, c))) : ∀ q, ¬ M b q := by
  cases o with
  | cells cs =>
    obtain ⟨b', c', arr, T, h1, h2, _, h3⟩ := h
    rw [hb] at h1
    injection h1 with h1
    injection h1 with h1
    injection h1 with h1 _
    rw [h1]; exact h3
  | row e n f =>
    obtain ⟨_, h⟩ := h
    rcases h with ⟨h1, _⟩ | ⟨b', c', arr, h1, h2, _, _, _, _, _, h3⟩
    · rw [hb] at h1; cases h1
    · rw [hb] at h1
      injection h1 with h1
      injection h1 with h1
      injection h1 with h1 _
      rw [h1]; exact h3
  | map t es =>
    obtain ⟨_, _, _, b', c', arr, clk, h1, _, _, _, h3, _⟩ := h
    rw [hb] at h1
    injection h1 with h1
    injection h1 with h1
    injection h1 with h1 _
    rw [h1]; exact h3
  | iter m n sn =>
    obtain ⟨_, b', c', bm, cm, sa, h1, _, _, _, h3⟩ := h
    rw [hb] at h1
    injection h1 with h1
    injection h1 with h1
    injection h1 with h1 _
    rw [h1]; exact h3
  | dead => cases hv
theorem Sim.storedW (h : Sim X M0 S0 w0 N M β σ a w) {l b c : Nat} {o0 o : Ob κ} {w' : World} (hkp : Kp w.heap.size (fun k => k = b) w w') (hl : σ.ob l = some (o0, false)) (hv : o0.live = true) (hb : β l = some (some (b, c))) (ho : ObAt X M w' β l o false) : Sim X M0 S0 w0 N M β (σ.setOb l o false) a w' := by
  have hne : ∀ k o' z' b' c', (σ.setOb l .dead false).ob k = some (o', z') → o'.live = true → β k = some (some (b', c')) → b' ≠ b := fun k o' z' b' c' hk hv' hb' e => by
    rcases St.setOb_ob hk with ⟨_, e'⟩ | ⟨hne, hk⟩
    · injection e' with e' _
      subst e'
      cases hv'
    · subst e
      exact hne (h.oi k l _ _ _ _ b' c' c hk hv' hl hv hb' hb)
  have h1 := (h.die l).world (M' := M) (fun k => k = b) hkp (fun k hk => hk ▸ h.oB l _ _ b c hl hv hb) (fun k o hk => hk ▸ (h.ob l _ _ hl).hid hv hb o) hne (fun _ _ h => h) (fun _ _ h => .inl h)
  have h2 := h1.add (l := l) (o := o) (z := false) ho (fun _ b' c' hb' => h.oB l _ _ b' c' hl hv hb') (fun _ k o' z' b' c1 c2 hk0 hk hv' hb1 hb2 => by
    rw [hb] at hb2
    injection hb2 with hb2
    injection hb2 with hb2
    injection hb2 with hb2 _
    exact hne k o' z' b' c1 hk hv' hb1 hb2.symm)
  rwa [set_set] at h2
theorem Sim.stored (h : Sim X M0 S0 w0 N M β σ a w) {l b c : Nat} {o0 o : Ob κ} {arr' : Array Value} (hl : σ.ob l = some (o0, false)) (hv : o0.live = true) (hb : β l = some (some (b, c))) (ho : ObAt X M (w.setRow b arr') β l o false) : Sim X M0 S0 w0 N M β (σ.setOb l o false) a (w.setRow b arr') := by
  have hne : ∀ k o' z' b' c', (σ.setOb l .dead false).ob k = some (o', z') → o'.live = true → β k = some (some (b', c')) → b' ≠ b := fun k o' z' b' c' hk hv' hb' e => by
    rcases St.setOb_ob hk with ⟨_, e'⟩ | ⟨hne, hk⟩
    · injection e' with e' _
      subst e'
      cases hv'
    · subst e
      exact hne (h.oi k l _ _ _ _ b' c' c hk hv' hl hv hb' hb)
  have h1 := (h.die l).row_world (b := b) arr' (h.oB l _ _ b c hl hv hb) ((h.ob l _ _ hl).hid hv hb) hne
  have h2 := h1.add (l := l) (o := o) (z := false) ho (fun _ b' c' hb' => h.oB l _ _ b' c' hl hv hb') (fun _ k o' z' b' c1 c2 hk0 hk hv' hb1 hb2 => by
    rw [hb] at hb2
    injection hb2 with hb2
    injection hb2 with hb2
    injection hb2 with hb2 _
    exact hne k o' z' b' c1 hk hv' hb1 hb2.symm)
  rwa [set_set] at h2
theorem Sim.again (h : Sim X M0 S0 w0 N M β σ a w) {l k b c : Nat} {o0 o : Ob κ} {arr' : Array Value} (hl : σ.ob l = some (o0, false)) (hv : o0.live = true) (hb : β l = some (some (b, c))) (hk : σ.ob k = none) (ho : ObAt X M (w.setRow b arr') (upd β k (some (b, c))) k o false) :
    Sim X M0 S0 w0 N M (upd β k (some (b, c))) ((σ.setOb l .dead false).setOb k o false) a (w.setRow b arr') := by
  have hkl : k ≠ l := fun e => by rw [e, hl] at hk; cases hk
  have hk' : (σ.setOb l .dead false).ob k = none := by simp only [St.setOb, beq_no hkl, cond_false]; exact hk
  have hne : ∀ i o' z' b' c', (σ.setOb l .dead false).ob i = some (o', z') → o'.live = true → β i = some (some (b', c')) → b' ≠ b := fun i o' z' b' c' hi hv' hb' e => by
    rcases St.setOb_ob hi with ⟨_, e'⟩ | ⟨hne, hi⟩
    · injection e' with e' _
      subst e'
      cases hv'
    · subst e
      exact hne (h.oi i l _ _ _ _ b' c' c hi hv' hl hv hb' hb)
  have h1 := (h.die l).row_world (b := b) arr' (h.oB l _ _ b c hl hv hb) ((h.ob l _ _ hl).hid hv hb) hne
  have h2 := h1.lab hk' (some (b, c))
  have h3 := h2.add (l := k) (o := o) (z := false) ho (fun _ b' c' hb' => by
    rw [upd_at] at hb'
    injection hb' with hb'
    injection hb' with hb'
    injection hb' with hb' _
    exact hb' ▸ h.oB l _ _ b c hl hv hb) (fun _ i o' z' b' c1 c2 hik hi hv' hb1 hb2 => by
    rw [upd_at] at hb2
    injection hb2 with hb2
    injection hb2 with hb2
    injection hb2 with hb2 _
    rw [upd_ne _ _ _ i hik] at hb1
    rcases St.setOb_ob hi with ⟨e0, _⟩ | ⟨_, hi⟩
    · exact hik e0
    · exact hne i o' z' b' c1 hi hv' hb1 hb2.symm)
  rwa [set_set] at h3

/-! ## append -/
structure Grp where
  b : Nat
  n : Nat
  c : Nat
  e : Nat
def OwnV (G : Option Grp) (e : Nat) (x : Value) : Prop :=
  match G with
  | none => x = .slice none 0 0
  | some G => G.e = e ∧ x = .slice (some ⟨G.b, 0, none⟩) G.n G.c
def GrpAt (X : Cx κ) (w : World) (G : Grp) : Prop := G.n ≤ G.c ∧ G.c ≤ maxLen ∧ ∃ cur, w.heap[G.b]? = some (.cells cur G.e (0, 0)) ∧ cur.size = G.c * (X.T G.e).size
theorem app_run0 {t e : TypeId} {x y : Value} {G : Option Grp} {n m : Nat} {news : List Value} (ht : (X.T t).k = .sl e) (hk : (X.T e).k ≠ .other) (hx : OwnV G e x) (hG : ∀ I, G = some I → GrpAt X w I) (hn : n = match G with | none => 0 | some I => I.n)
    (hy : ((∃ A c, y = .slice A 0 c) ∧ m = 0) ∨ ∃ b o c, y = .slice (some ⟨b, o, none⟩) m c ∧ ∀ j v, news[j]? = some v → w.cell? ⟨b, o + j, none⟩ = some v) (hl : news.length = m * (X.T e).size) (h1 : ∀ v ∈ news, v.oneCell' = true)
    (hb : (n + m) * (X.T e).bytes ≤ 140737488355328) (hm : n + m ≤ 9223372036854775807) {ty : TypeId} :
    ∃ x' w', (Builtin.append_ #[t, t] ty #[x, y]).run X.P w = .ok x' w' ∧
      ((x' = x ∧ w' = w ∧ m = 0) ∨
       (∃ I cur, G = some I ∧ w.heap[I.b]? = some (.cells cur I.e (0, 0)) ∧ cur.size = I.c * (X.T e).size ∧ n + m ≤ I.c ∧ x' = .slice (some ⟨I.b, 0, none⟩) (n + m) I.c ∧ w' = w.setRow I.b (cur.toList.take (n * (X.T e).size) ++ news ++ cur.toList.drop (n * (X.T e).size + news.length)).toArray) ∨
       (∃ cap olds rest, olds.length = n * (X.T e).size ∧ (∀ I, G = some I → ∀ j v, olds[j]? = some v → w.cell? ⟨I.b, j, none⟩ = some v) ∧ n + m ≤ cap ∧ cap ≤ maxLen ∧ (olds ++ news ++ rest).length = cap * (X.T e).size ∧
          x' = .slice (some ⟨w.heap.size, 0, none⟩) (n + m) cap ∧ w' = w.drew.alloc (.cells (olds ++ news ++ rest).toArray e))) := by
  have hu := X.form t
  rw [ht] at hu
  simp only [KOk] at hu
  obtain ⟨hs0, hz0, _, _, i, hi, hsz, hby, hz⟩ := X.info hk
  have h63 : n + m ≤ maxLen := by unfold maxLen; omega
  cases G with
  | none =>
    simp only at hn
    subst hn
    simp only [OwnV] at hx
    subst hx
    by_cases hm0 : m = 0
    · subst hm0
      have hnews : news = [] := List.eq_nil_of_length_eq_zero (by simpa using hl)
      subst hnews
      refine ⟨_, _, ?_, .inl ⟨rfl, rfl, rfl⟩⟩
      rcases hy with ⟨⟨A, c, rfl⟩, _⟩ | ⟨b, o, c, rfl, _⟩
      · cases A <;> simp [Builtin.append_, run_underlying hu, Go.sizeOf, typeInfo, hi, Builtin.lenOf, Builtin.firstCells, loadCells, loadCellsFrom]
      · simp [Builtin.append_, run_underlying hu, Go.sizeOf, typeInfo, hi, Builtin.lenOf, Builtin.firstCells, loadCells, loadCellsFrom]
    · rcases hy with ⟨_, rfl⟩ | ⟨b, o, c, rfl, hc⟩
      · exact absurd rfl hm0
      have hr := run_append_nil (P := X.P) w t ty e i (X.T e).zero hu hi hz ⟨b, o, none⟩ m c news (by rw [hl, hsz]) (fun j v hv => by rw [Go.WideShapes.add_plain]; exact hc j v hv) (by omega) (by omega) (by rw [hby]; simp only [Nat.zero_add] at hb; omega)
      refine ⟨_, _, hr, .inr (.inr ⟨grownCap w m 0 e, [], (Builtin.zeroCells (X.T e).zero.cells (grownCap w m 0 e - m)).toList, by simp, (fun I h => by cases h), ?_, ?_, ?_, by simp, ?_⟩)⟩
      · have := grownCap_ge w m 0 e; omega
      · exact grownCap_le_maxLen w m 0 e (by omega)
      · have := grownCap_ge w m 0 e
        simp only [List.nil_append, List.length_append, hl, Array.length_toList, size_zeroCells, hz0, ← Nat.add_mul]
        congr 1
        omega
      · congr 2
        rw [← Array.toList_inj]
        simp
  | some I =>
    simp only at hn
    subst hn
    obtain ⟨rfl, rfl⟩ := hx
    obtain ⟨g2, g3, cur, g5, g6⟩ := hG I rfl
    by_cases hroom : I.n + m ≤ I.c
    · have hfit : I.n * (X.T I.e).size + news.length ≤ cur.size := by rw [hl, g6, ← Nat.add_mul]; exact Nat.mul_le_mul_right _ hroom
      rcases hy with ⟨rfl_, rfl⟩ | ⟨b, o, c, rfl, hc⟩
      · obtain ⟨A, c, rfl⟩ := rfl_
        refine ⟨_, _, ?_, .inl ⟨rfl, rfl, rfl⟩⟩
        have hic : I.n ≤ I.c := g2
        cases A <;> simp [loadCells, loadCellsFrom, Builtin.append_, run_underlying hu, Go.sizeOf, typeInfo, hi, Builtin.lenOf, Builtin.firstCells, hic, storeCells]
      · have hr := run_append_room (P := X.P) w t ty I.e i hu hi I.b I.n I.c cur g5 ⟨b, o, none⟩ m c news (by rw [hl, hsz]) (fun j v hv => by rw [Go.WideShapes.add_plain]; exact hc j v hv) h1 hroom (by rw [hsz]; exact hfit)
        rw [hsz] at hr
        exact ⟨_, _, hr, .inr (.inl ⟨I, cur, rfl, g5, g6, hroom, rfl, rfl⟩)⟩
    · rcases hy with ⟨_, rfl⟩ | ⟨b, o, c, rfl, hc⟩
      · omega
      have hcells : ∀ j v, (cur.toList.take (I.n * (X.T I.e).size))[j]? = some v → w.cell? ⟨I.b, j, none⟩ = some v := by
        intro j v hv
        rw [cell_of_row _ _ _ _ _ _ g5]
        rw [List.getElem?_take] at hv
        split at hv
        · simpa using hv
        · cases hv
      have hlen : (cur.toList.take (I.n * (X.T I.e).size)).length = I.n * (X.T I.e).size := by
        rw [List.length_take, Array.length_toList, g6]
        have := Nat.mul_le_mul_right (X.T I.e).size g2
        omega
      have hr := run_append_grow (P := X.P) w t ty I.e i (X.T I.e).zero hu hi hz ⟨I.b, 0, none⟩ I.n I.c (cur.toList.take (I.n * (X.T I.e).size)) (by rw [hlen, hsz]) (fun j v hv => by rw [Go.WideShapes.add_plain, Nat.zero_add]; exact hcells j v hv) ⟨b, o, none⟩ m c news (by rw [hl, hsz]) (fun j v hv => by rw [Go.WideShapes.add_plain]; exact hc j v hv) (by omega) (by omega) (growslice_fits (by omega) (by rw [hby]; exact hb))
      refine ⟨_, _, hr, .inr (.inr ⟨grownCap w (I.n + m) I.c I.e, cur.toList.take (I.n * (X.T I.e).size), (Builtin.zeroCells (X.T I.e).zero.cells (grownCap w (I.n + m) I.c I.e - (I.n + m))).toList, hlen, fun J h => ?_, ?_, ?_, ?_, rfl, ?_⟩)⟩
      · injection h with h
        subst h
        exact hcells
      · exact grownCap_ge w (I.n + m) I.c I.e
      · exact grownCap_le_maxLen w (I.n + m) I.c I.e h63
      · have := grownCap_ge w (I.n + m) I.c I.e
        simp only [List.length_append, hlen, hl, Array.length_toList, size_zeroCells, hz0, ← Nat.add_mul]
        congr 1
        omega
      · congr 2
        rw [← Array.toList_inj]
        simp
def SrcV (X : Cx κ) (w : World) (t tx : TypeId) (e : Nat) (y : Value) (m : Nat) (news : List Value) : Prop :=
  (tx = t ∧ (((∃ A c, y = .slice A 0 c) ∧ m = 0) ∨ ∃ b o c, y = .slice (some ⟨b, o, none⟩) m c ∧ ∀ j v, news[j]? = some v → w.cell? ⟨b, o + j, none⟩ = some v)) ∨
  (X.P.underlying tx = some .string ∧ (X.T e).size = 1 ∧ ∃ s : ByteArray, y = .string s ∧ m = s.size ∧ news = byteCells s)
theorem app_runS {t tx e : TypeId} {x : Value} {s : ByteArray} {G : Option Grp} {n m : Nat} {news : List Value} (ht : (X.T t).k = .sl e) (hk : (X.T e).k ≠ .other) (hx : OwnV G e x) (hG : ∀ I, G = some I → GrpAt X w I) (hn : n = match G with | none => 0 | some I => I.n)
    (hs : X.P.underlying tx = some .string) (he : (X.T e).size = 1) (hms : m = s.size) (hns : news = byteCells s)
    (hb : (n + m) * (X.T e).bytes ≤ 140737488355328) (hm : n + m ≤ 9223372036854775807) {ty : TypeId} :
    ∃ x' w', (Builtin.append_ #[t, tx] ty #[x, .string s]).run X.P w = .ok x' w' ∧
      ((x' = x ∧ w' = w ∧ m = 0) ∨
       (∃ I cur, G = some I ∧ w.heap[I.b]? = some (.cells cur I.e (0, 0)) ∧ cur.size = I.c * (X.T e).size ∧ n + m ≤ I.c ∧ x' = .slice (some ⟨I.b, 0, none⟩) (n + m) I.c ∧ w' = w.setRow I.b (cur.toList.take (n * (X.T e).size) ++ news ++ cur.toList.drop (n * (X.T e).size + news.length)).toArray) ∨
       (∃ cap olds rest, olds.length = n * (X.T e).size ∧ (∀ I, G = some I → ∀ j v, olds[j]? = some v → w.cell? ⟨I.b, j, none⟩ = some v) ∧ n + m ≤ cap ∧ cap ≤ maxLen ∧ (olds ++ news ++ rest).length = cap * (X.T e).size ∧
          x' = .slice (some ⟨w.heap.size, 0, none⟩) (n + m) cap ∧ w' = w.drew.alloc (.cells (olds ++ news ++ rest).toArray e))) := by
  have hu := X.form t
  rw [ht] at hu
  simp only [KOk] at hu
  obtain ⟨hs0, hz0, _, _, i, hi, hsz, hby, hz⟩ := X.info hk
  have h63 : n + m ≤ maxLen := by unfold maxLen; omega
  have hl : news.length = m * (X.T e).size := by rw [hns, byteCells_length, hms, he, Nat.mul_one]
  have hsrc : Src X.P i.size tx (.string s) m news w := by
    rw [hsz, he, hms, hns]
    exact Src.ofString w hs s
  cases G with
  | none =>
    simp only at hn
    subst hn
    simp only [OwnV] at hx
    subst hx
    by_cases hm0 : m = 0
    · have hn0 : news = [] := List.eq_nil_of_length_eq_zero (by rw [hl, hm0, Nat.zero_mul])
      refine ⟨_, _, ?_, .inl ⟨rfl, rfl, hm0⟩⟩
      have hc := hsrc.cells
      rw [hm0, hn0] at hc
      have hlen := hsrc.len
      rw [hm0] at hlen
      simp [Builtin.append_, run_underlying hu, run_underlying hs, Go.sizeOf, typeInfo, hi, hlen, hc, loadCells, loadCellsFrom]
    · have hr := run_append_grow_src (P := X.P) w t tx ty e i (X.T e).zero hu hi hz none 0 0 [] (by simp [Builtin.firstCells, loadCells, loadCellsFrom]) (.string s) m news hsrc (by omega) (by omega) (growslice_fits (by omega) (by rw [hby]; exact hb))
      refine ⟨_, _, hr, .inr (.inr ⟨grownCap w (0 + m) 0 e, [], (Builtin.zeroCells (X.T e).zero.cells (grownCap w (0 + m) 0 e - (0 + m))).toList, by simp, (fun I h => by cases h), ?_, ?_, ?_, by simp, ?_⟩)⟩
      · exact grownCap_ge w (0 + m) 0 e
      · exact grownCap_le_maxLen w (0 + m) 0 e h63
      · have := grownCap_ge w (0 + m) 0 e
        simp only [List.nil_append, List.length_append, hl, Array.length_toList, size_zeroCells, hz0, ← Nat.add_mul]
        congr 1
        omega
      · congr 2
        rw [← Array.toList_inj]
        simp
  | some I =>
    simp only at hn
    subst hn
    obtain ⟨rfl, rfl⟩ := hx
    obtain ⟨g2, g3, cur, g5, g6⟩ := hG I rfl
    by_cases hroom : I.n + m ≤ I.c
    · have hfit : I.n * (X.T I.e).size + news.length ≤ cur.size := by rw [hl, g6, ← Nat.add_mul]; exact Nat.mul_le_mul_right _ hroom
      have hst := run_storeCells_at X.P I.b (I.n * i.size) I.e news 0 cur w g5 (by rw [hsz, Nat.add_zero]; exact hfit) hsrc.one
      simp only [Nat.add_zero] at hst
      have hr : (Builtin.append_ #[t, tx] ty #[.slice (some ⟨I.b, 0, none⟩) I.n I.c, .string s]).run X.P w = .ok (.slice (some ⟨I.b, 0, none⟩) (I.n + m) I.c) (w.setRow I.b (cur.toList.take (I.n * i.size) ++ news ++ cur.toList.drop (I.n * i.size + news.length)).toArray) := by
        simp [Builtin.append_, run_underlying hu, run_underlying hs, Go.sizeOf, typeInfo, hi, hsrc.len, hroom, hsrc.cells, Addr.add_lit, hst]
      rw [hsz] at hr
      exact ⟨_, _, hr, .inr (.inl ⟨I, cur, rfl, g5, g6, hroom, rfl, rfl⟩)⟩
    · have hcells : ∀ j v, (cur.toList.take (I.n * (X.T I.e).size))[j]? = some v → w.cell? ⟨I.b, j, none⟩ = some v := by
        intro j v hv
        rw [cell_of_row _ _ _ _ _ _ g5]
        rw [List.getElem?_take] at hv
        split at hv
        · simpa using hv
        · cases hv
      have hlen : (cur.toList.take (I.n * (X.T I.e).size)).length = I.n * (X.T I.e).size := by
        rw [List.length_take, Array.length_toList, g6]
        have := Nat.mul_le_mul_right (X.T I.e).size g2
        omega
      have hf := run_firstCells_some (P := X.P) w.drew i.size I.n ⟨I.b, 0, none⟩ I.n I.c (cur.toList.take (I.n * (X.T I.e).size)) (by rw [hlen, hsz]) (fun j v hv => by rw [Go.WideShapes.add_plain, Nat.zero_add]; exact hcells j v hv)
      have hr := run_append_grow_src (P := X.P) w t tx ty I.e i (X.T I.e).zero hu hi hz (some ⟨I.b, 0, none⟩) I.n I.c (cur.toList.take (I.n * (X.T I.e).size)) hf (.string s) m news hsrc (by omega) (by omega) (growslice_fits (by omega) (by rw [hby]; exact hb))
      refine ⟨_, _, hr, .inr (.inr ⟨grownCap w (I.n + m) I.c I.e, cur.toList.take (I.n * (X.T I.e).size), (Builtin.zeroCells (X.T I.e).zero.cells (grownCap w (I.n + m) I.c I.e - (I.n + m))).toList, hlen, fun J h => ?_, ?_, ?_, ?_, rfl, ?_⟩)⟩
      · injection h with h
        subst h
        exact hcells
      · exact grownCap_ge w (I.n + m) I.c I.e
      · exact grownCap_le_maxLen w (I.n + m) I.c I.e h63
      · have := grownCap_ge w (I.n + m) I.c I.e
        simp only [List.length_append, hlen, hl, Array.length_toList, size_zeroCells, hz0, ← Nat.add_mul]
        congr 1
        omega
      · congr 2
        rw [← Array.toList_inj]
        simp
theorem app_run {t tx e : TypeId} {x y : Value} {G : Option Grp} {n m : Nat} {news : List Value} (ht : (X.T t).k = .sl e) (hk : (X.T e).k ≠ .other) (hx : OwnV G e x) (hG : ∀ I, G = some I → GrpAt X w I) (hn : n = match G with | none => 0 | some I => I.n)
    (hy : SrcV X w t tx e y m news) (hl : news.length = m * (X.T e).size) (h1 : ∀ v ∈ news, v.oneCell' = true)
    (hb : (n + m) * (X.T e).bytes ≤ 140737488355328) (hm : n + m ≤ 9223372036854775807) {ty : TypeId} :
    ∃ x' w', (Builtin.append_ #[t, tx] ty #[x, y]).run X.P w = .ok x' w' ∧
      ((x' = x ∧ w' = w ∧ m = 0) ∨
       (∃ I cur, G = some I ∧ w.heap[I.b]? = some (.cells cur I.e (0, 0)) ∧ cur.size = I.c * (X.T e).size ∧ n + m ≤ I.c ∧ x' = .slice (some ⟨I.b, 0, none⟩) (n + m) I.c ∧ w' = w.setRow I.b (cur.toList.take (n * (X.T e).size) ++ news ++ cur.toList.drop (n * (X.T e).size + news.length)).toArray) ∨
       (∃ cap olds rest, olds.length = n * (X.T e).size ∧ (∀ I, G = some I → ∀ j v, olds[j]? = some v → w.cell? ⟨I.b, j, none⟩ = some v) ∧ n + m ≤ cap ∧ cap ≤ maxLen ∧ (olds ++ news ++ rest).length = cap * (X.T e).size ∧
          x' = .slice (some ⟨w.heap.size, 0, none⟩) (n + m) cap ∧ w' = w.drew.alloc (.cells (olds ++ news ++ rest).toArray e))) := by
  rcases hy with ⟨rfl, hy⟩ | ⟨hs, he, s, rfl, hms, hns⟩
  · exact app_run0 ht hk hx hG hn hy hl h1 hb hm
  · exact app_runS ht hk hx hG hn hs he hms hns hb hm
end
end Go.Proofs.YteojgenhgjhohaaDoor
