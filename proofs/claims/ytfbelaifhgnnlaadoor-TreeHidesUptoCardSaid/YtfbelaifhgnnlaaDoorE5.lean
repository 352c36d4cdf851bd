/-
  append, over any program: on data, and in memory.
-/
import Derived.Test.YtfbelaifhgnnlaaDoorE4
import Derived.Laws.AppendOwn
namespace Go.Proofs.YtfbelaifhgnnlaaDoor
open Go.RowKit
set_option linter.unusedVariables false
set_option linter.unusedSimpArgs false

section
variable {κ : Type} {X : Cx κ} {M0 M : Nat → Nat → Prop} {w0 w : World} {N : Nat} {β : Nat → Nat} {γ : Nat → Option Grp} {σ : St κ} {a : Act}

/-- None may append to group g any more. -/
def St.kill (σ : St κ) (g : Nat) : St κ where
  fr := σ.fr
  tg := fun p => killO g (σ.tg p)
  bx := σ.bx

theorem Sim.kill (h : Sim X M0 w0 N M β γ σ a w) (g : Nat) : Sim X M0 w0 N M β (fun i => if i = g then none else γ i) (σ.kill g) a w := by
  have hg : ∀ k G, (if k = g then none else γ k) = some G → k ≠ g ∧ γ k = some G := fun k G hk => by
    by_cases e : k = g
    · simp [e] at hk
    · rw [if_neg e] at hk; exact ⟨e, hk⟩
  refine { h with gr := fun k G hk => h.gr k G (hg k G hk).2, gb := fun k G l cs hk hl => h.gb k G l cs (hg k G hk).2 hl, gi := fun k k' G G' hk hk' e => h.gi k k' G G' (hg k G hk).2 (hg k' G' hk').2 e, tp := fun t l o ht hl => h.tp t l o (killO_ptr ht) hl, to := fun t k e ht => ?_, tc := fun l o k e cs ht hl => ?_, fr := h.fr, df := h.df, bx := h.bx }
  · obtain ⟨h1, h2⟩ := killO_own ht
    rw [if_neg h2]
    exact h.to t k e h1
  · obtain ⟨h1, h2⟩ := killO_own ht
    obtain ⟨x, h3, h4⟩ := h.tc l o k e cs h1 hl
    exact ⟨x, h3, by rw [if_neg h2]; exact h4⟩

/-- A block of the call's own that nobody names is written, or is new. -/
theorem Sim.world (h : Sim X M0 w0 N M β γ σ a w) {w' : World} {M' : Nat → Nat → Prop} (b' : Nat) (hos : w'.os = w.os) (htp : w'.tape = w.tape) (hout : w'.output = w.output) (hsz : w.heap.size ≤ w'.heap.size)
    (hB : w0.heap.size ≤ b') (hlt : b' < w'.heap.size) (hh : ∀ k, k < w.heap.size → k ≠ b' → w'.heap[k]? = w.heap[k]?) (hc : ∀ b o, M b o → w'.cell? ⟨b, o, none⟩ = w.cell? ⟨b, o, none⟩)
    (hbx : ∀ l cs, σ.bx l = some cs → β l ≠ b') (hgr : ∀ g G, γ g = some G → G.b ≠ b') (hM : ∀ b o, M b o → M' b o) (hN : ∀ b o, M' b o → M b o ∨ b = b') : Sim X M0 w0 N M' β γ σ a w' := by
  refine ⟨h.below.trans ⟨hos, htp, hout, hsz, fun k hk => hh k (by have := h.below.size; omega) (by omega)⟩, h.df, h.sz, fun b o hm => hM _ _ (h.m0 b o hm), ?_, ?_, fun i => (h.fr i).mono hM hc, ?_, h.bB, ?_, h.bi, ?_, h.gb, h.gi, h.tp, h.to, ?_⟩
  · intro b o hm
    rcases hN b o hm with hm | rfl
    · exact h.mN b o hm
    · exact .inr hB
  · intro b o hm
    rcases hN b o hm with hm | rfl
    · have := h.mlt b o hm; omega
    · exact hlt
  · intro l cs hl
    have h1 := h.bx l cs hl
    obtain ⟨arr, T, h2, _⟩ := h1
    exact (h.bx l cs hl).keep (hh _ (heap_lt h2) (hbx l cs hl)) hM hc
  · intro l cs o hl hm
    rcases hN _ o hm with hm | hm
    · exact h.bm l cs o hl hm
    · exact hbx l cs hl hm
  · intro g G hg
    obtain ⟨h1, h2, h3, h4, cur, h5, h6⟩ := h.gr g G hg
    refine ⟨h1, h2, h3, fun o hm => ?_, cur, (hh _ (heap_lt h5) (hgr g G hg)).trans h5, h6⟩
    rcases hN _ o hm with hm | hm
    · exact h4 o hm
    · exact absurd hm (hgr g G hg)
  · intro l o g e cs ht hl
    obtain ⟨x, hx, ho⟩ := h.tc l o g e cs ht hl
    obtain ⟨arr, T, h2, _⟩ := h.bx l cs hl
    refine ⟨x, ?_, ho⟩
    exact (World.cell?_of_block (w := w) (a := ⟨β l, o, none⟩) (hh _ (heap_lt h2) (hbx l cs hl))).trans hx

/-- The slice in slot k owns its block from now on. -/
theorem Sim.take {g : Nat} (h : Sim X M0 w0 N M β γ (σ.kill g) a w) (hγ : γ g = none) {k e : Nat} {d : D κ} {x : Value} (hk : k < N) (G' : Option Grp) (hr : Rep X.V M w d x) (hv : OwnV G' e x)
    (hG : ∀ G, G' = some G → GrpAt X M w w0.heap.size G ∧ (∀ l cs, σ.bx l = some cs → G.b ≠ β l) ∧ ∀ i I, γ i = some I → I.b ≠ G.b) :
    Sim X M0 w0 N M β (fun i => if i = g then G' else γ i) (σ.app k g e d) (a.put (some k) x) w := by
  have hput := fun i => getD_put a k i x (by rw [h.sz]; exact hk)
  have hg : ∀ i G, (if i = g then G' else γ i) = some G → (i = g ∧ G' = some G) ∨ (i ≠ g ∧ γ i = some G) := fun i G hi => by
    by_cases e : i = g
    · rw [if_pos e] at hi; exact .inl ⟨e, hi⟩
    · rw [if_neg e] at hi; exact .inr ⟨e, hi⟩
  refine ⟨h.below, h.df, by simp [Act.put, h.sz], h.m0, h.mN, h.mlt, ?_, h.bx, h.bB, h.bm, h.bi, ?_, ?_, ?_, ?_, ?_, ?_⟩
  · intro i
    rw [hput]
    by_cases e : i = k
    · subst e
      simp only [St.app, beq_yes, cond_true, if_true]
      exact hr
    · simp only [St.app, beq_no e, cond_false, if_neg e]
      exact h.fr i
  · intro i G hi
    rcases hg i G hi with ⟨_, hi1⟩ | ⟨_, hi1⟩
    · exact (hG G hi1).1
    · exact h.gr i G hi1
  · intro i G l cs hi hl
    rcases hg i G hi with ⟨_, hi1⟩ | ⟨_, hi1⟩
    · exact (hG G hi1).2.1 l cs hl
    · exact h.gb i G l cs hi1 hl
  · intro i i' I I' hi hi' e
    rcases hg i I hi with ⟨rfl, h1⟩ | ⟨e1, h1⟩ <;> rcases hg i' I' hi' with ⟨rfl, h2⟩ | ⟨e2, h2⟩
    · rfl
    · exact absurd e.symm ((hG I h1).2.2 i' I' h2)
    · exact absurd e ((hG I' h2).2.2 i I h1)
    · exact h.gi i i' I I' h1 h2 e
  · intro t l o ht hl
    rw [hput]
    by_cases e : t = k
    · subst e
      simp [St.app, beq_yes] at ht
    · simp only [St.app, beq_no e, cond_false] at ht
      rw [if_neg e]
      exact h.tp t l o ht hl
  · intro t i e' ht
    rw [hput]
    by_cases e1 : t = k
    · subst e1
      simp only [St.app, beq_yes, cond_true, Option.some.injEq, Tg.own.injEq] at ht
      obtain ⟨rfl, rfl⟩ := ht
      simp only [if_true]
      exact hv
    · simp only [St.app, beq_no e1, cond_false] at ht
      rw [if_neg e1, if_neg (killO_own ht).2]
      exact h.to t i e' ht
  · intro l o i e' cs ht hl
    have ht' : killO g (σ.tg (.c l o)) = some (.own i e') := ht
    obtain ⟨x', h1, h2⟩ := h.tc l o i e' cs ht' hl
    exact ⟨x', h1, by rw [if_neg (killO_own ht').2]; exact h2⟩

/-- What 'append' does to an own slice. -/
theorem app_run {t e : TypeId} {x y : Value} {G : Option Grp} {B n m : Nat} {news : List Value} (ht : (X.T t).k = .sl e) (hk : (X.T e).k ≠ .other) (hx : OwnV G e x) (hG : ∀ I, G = some I → GrpAt X M w B I) (hn : n = match G with | none => 0 | some I => I.n)
    (hy : ((∃ A c, y = .slice A 0 c) ∧ m = 0) ∨ ∃ b o c, y = .slice (some ⟨b, o, none⟩) m c ∧ ∀ j v, news[j]? = some v → w.cell? ⟨b, o + j, none⟩ = some v) (hl : news.length = m * (X.T e).size) (h1 : ∀ v ∈ news, v.oneCell' = true)
    (hb : (n + m) * (X.T e).bytes ≤ 140737488355328) (hm : n + m ≤ 9223372036854775807) {ty : TypeId} :
    ∃ x' w', (Builtin.append_ #[t, t] ty #[x, y]).run X.P w = .ok x' w' ∧
      ((x' = x ∧ w' = w ∧ m = 0) ∨
       (∃ I cur, G = some I ∧ w.heap[I.b]? = some (.cells cur I.e (0, 0)) ∧ cur.size = I.c * (X.T e).size ∧ n + m ≤ I.c ∧ x' = .slice (some ⟨I.b, 0, none⟩) (n + m) I.c ∧ w' = w.setRow I.b (cur.toList.take (n * (X.T e).size) ++ news ++ cur.toList.drop (n * (X.T e).size + news.length)).toArray) ∨
       (∃ cap olds rest, olds.length = n * (X.T e).size ∧ (∀ I, G = some I → ∀ j v, olds[j]? = some v → w.cell? ⟨I.b, j, none⟩ = some v) ∧ n + m ≤ cap ∧ cap ≤ maxLen ∧ (olds ++ news ++ rest).length = cap * (X.T e).size ∧
          x' = .slice (some ⟨w.heap.size, 0, none⟩) (n + m) cap ∧ w' = w.drew.alloc (.cells (olds ++ news ++ rest).toArray e))) := by
  have hu := X.form t
  rw [ht] at hu
  simp only [KOk] at hu
  obtain ⟨hs0, hz0, _, _, i, hi, hsz, hby, hz⟩ := X.info hk
  have h63 : n + m ≤ maxLen := by unfold maxLen; omega
  cases G with
  | none =>
    simp only at hn
    subst hn
    simp only [OwnV] at hx
    subst hx
    by_cases hm0 : m = 0
    · subst hm0
      have hnews : news = [] := List.eq_nil_of_length_eq_zero (by simpa using hl)
      subst hnews
      refine ⟨_, _, ?_, .inl ⟨rfl, rfl, rfl⟩⟩
      rcases hy with ⟨⟨A, c, rfl⟩, _⟩ | ⟨b, o, c, rfl, _⟩
      · cases A <;> simp [Builtin.append_, run_underlying hu, Go.sizeOf, typeInfo, hi, Builtin.lenOf, Builtin.firstCells, loadCells, loadCellsFrom]
      · simp [Builtin.append_, run_underlying hu, Go.sizeOf, typeInfo, hi, Builtin.lenOf, Builtin.firstCells, loadCells, loadCellsFrom]
    · rcases hy with ⟨_, rfl⟩ | ⟨b, o, c, rfl, hc⟩
      · exact absurd rfl hm0
      have hr := run_append_nil (P := X.P) w t ty e i (X.T e).zero hu hi hz ⟨b, o, none⟩ m c news (by rw [hl, hsz]) (fun j v hv => by rw [Go.WideShapes.add_plain]; exact hc j v hv) (by omega) (by omega) (by rw [hby]; simp only [Nat.zero_add] at hb; omega)
      refine ⟨_, _, hr, .inr (.inr ⟨grownCap w m 0 e, [], (Builtin.zeroCells (X.T e).zero.cells (grownCap w m 0 e - m)).toList, by simp, (fun I h => by cases h), ?_, ?_, ?_, by simp, ?_⟩)⟩
      · have := grownCap_ge w m 0 e; omega
      · exact grownCap_le_maxLen w m 0 e (by omega)
      · have := grownCap_ge w m 0 e
        simp only [List.nil_append, List.length_append, hl, Array.length_toList, size_zeroCells, hz0, ← Nat.add_mul]
        congr 1
        omega
      · congr 2
        rw [← Array.toList_inj]
        simp
  | some I =>
    simp only at hn
    subst hn
    obtain ⟨rfl, rfl⟩ := hx
    obtain ⟨_, g2, g3, _, cur, g5, g6⟩ := hG I rfl
    by_cases hroom : I.n + m ≤ I.c
    · have hfit : I.n * (X.T I.e).size + news.length ≤ cur.size := by rw [hl, g6, ← Nat.add_mul]; exact Nat.mul_le_mul_right _ hroom
      rcases hy with ⟨rfl_, rfl⟩ | ⟨b, o, c, rfl, hc⟩
      · obtain ⟨A, c, rfl⟩ := rfl_
        refine ⟨_, _, ?_, .inl ⟨rfl, rfl, rfl⟩⟩
        have hic : I.n ≤ I.c := g2
        cases A <;> simp [loadCells, loadCellsFrom, Builtin.append_, run_underlying hu, Go.sizeOf, typeInfo, hi, Builtin.lenOf, Builtin.firstCells, hic, storeCells]
      · have hr := run_append_room (P := X.P) w t ty I.e i hu hi I.b I.n I.c cur g5 ⟨b, o, none⟩ m c news (by rw [hl, hsz]) (fun j v hv => by rw [Go.WideShapes.add_plain]; exact hc j v hv) h1 hroom (by rw [hsz]; exact hfit)
        rw [hsz] at hr
        exact ⟨_, _, hr, .inr (.inl ⟨I, cur, rfl, g5, g6, hroom, rfl, rfl⟩)⟩
    · rcases hy with ⟨_, rfl⟩ | ⟨b, o, c, rfl, hc⟩
      · omega
      have hcells : ∀ j v, (cur.toList.take (I.n * (X.T I.e).size))[j]? = some v → w.cell? ⟨I.b, j, none⟩ = some v := by
        intro j v hv
        rw [cell_of_row _ _ _ _ _ _ g5]
        rw [List.getElem?_take] at hv
        split at hv
        · simpa using hv
        · cases hv
      have hlen : (cur.toList.take (I.n * (X.T I.e).size)).length = I.n * (X.T I.e).size := by
        rw [List.length_take, Array.length_toList, g6]
        have := Nat.mul_le_mul_right (X.T I.e).size g2
        omega
      have hr := run_append_grow (P := X.P) w t ty I.e i (X.T I.e).zero hu hi hz ⟨I.b, 0, none⟩ I.n I.c (cur.toList.take (I.n * (X.T I.e).size)) (by rw [hlen, hsz]) (fun j v hv => by rw [Go.WideShapes.add_plain, Nat.zero_add]; exact hcells j v hv) ⟨b, o, none⟩ m c news (by rw [hl, hsz]) (fun j v hv => by rw [Go.WideShapes.add_plain]; exact hc j v hv) (by omega) (by omega) (growslice_fits (by omega) (by rw [hby]; exact hb))
      refine ⟨_, _, hr, .inr (.inr ⟨grownCap w (I.n + m) I.c I.e, cur.toList.take (I.n * (X.T I.e).size), (Builtin.zeroCells (X.T I.e).zero.cells (grownCap w (I.n + m) I.c I.e - (I.n + m))).toList, hlen, fun J h => ?_, ?_, ?_, ?_, rfl, ?_⟩)⟩
      · injection h with h
        subst h
        exact hcells
      · exact grownCap_ge w (I.n + m) I.c I.e
      · exact grownCap_le_maxLen w (I.n + m) I.c I.e h63
      · have := grownCap_ge w (I.n + m) I.c I.e
        simp only [List.length_append, hlen, hl, Array.length_toList, size_zeroCells, hz0, ← Nat.add_mul]
        congr 1
        omega
      · congr 2
        rw [← Array.toList_inj]
        simp
end
end Go.Proofs.YtfbelaifhgnnlaaDoor
