/-
  Operations that make and write the call's own variables, over any program: on data, and in memory.
-/
import Derived.Test.YtfbelaifhgnnlaaDoorE3
import Derived.Laws.Alloc2
import Derived.Laws.NewBlocks
import Derived.Laws.CopyRow
namespace Go.Proofs.YtfbelaifhgnnlaaDoor
open Go.RowKit
set_option linter.unusedVariables false
set_option linter.unusedSimpArgs false

section
variable {κ : Type} {X : Cx κ} {M0 M : Nat → Nat → Prop} {w0 w : World} {N : Nat} {β : Nat → Nat} {γ : Nat → Option Grp} {σ : St κ} {a : Act}

def ownOnly : Option Tg → Option Tg
  | some (.own g e) => some (.own g e)
  | _ => none
theorem ownOnly_ptr {t : Option Tg} {l o : Nat} : ownOnly t ≠ some (.ptr l o) := by
  cases t with
  | none => simp [ownOnly]
  | some t => cases t <;> simp [ownOnly]
theorem ownOnly_own {t : Option Tg} {g e : Nat} (h : ownOnly t = some (.own g e)) : t = some (.own g e) := by
  cases t with
  | none => simp [ownOnly] at h
  | some t => cases t <;> simp_all [ownOnly]
theorem killP_ptr {l k o : Nat} {t : Option Tg} (h : killP l t = some (.ptr k o)) : t = some (.ptr k o) ∧ k ≠ l := by
  cases t with
  | none => simp [killP] at h
  | some t =>
    cases t with
    | ptr k' o' =>
      by_cases e : k' = l
      · subst e; simp [killP, beq_yes] at h
      · simp only [killP, beq_no e, cond_false, Option.some.injEq, Tg.ptr.injEq] at h
        obtain ⟨rfl, rfl⟩ := h
        exact ⟨rfl, e⟩
    | own => simp [killP] at h
theorem killP_own {l g e : Nat} {t : Option Tg} (h : killP l t = some (.own g e)) : t = some (.own g e) := by
  cases t with
  | none => simp [killP] at h
  | some t =>
    cases t with
    | ptr k' o' =>
      by_cases e : k' = l
      · subst e; simp [killP, beq_yes] at h
      · simp [killP, beq_no e] at h
    | own => simpa [killP] using h
theorem killO_ptr {g k o : Nat} {t : Option Tg} (h : killO g t = some (.ptr k o)) : t = some (.ptr k o) := by
  cases t with
  | none => simp [killO] at h
  | some t =>
    cases t with
    | own k' e =>
      by_cases h' : k' = g
      · subst h'; simp [killO, beq_yes] at h
      · simp [killO, beq_no h'] at h
    | ptr => simpa [killO] using h
theorem killO_own {g k e : Nat} {t : Option Tg} (h : killO g t = some (.own k e)) : t = some (.own k e) ∧ k ≠ g := by
  cases t with
  | none => simp [killO] at h
  | some t =>
    cases t with
    | own k' e' =>
      by_cases h' : k' = g
      · subst h'; simp [killO, beq_yes] at h
      · simp only [killO, beq_no h', cond_false, Option.some.injEq, Tg.own.injEq] at h
        obtain ⟨rfl, rfl⟩ := h
        exact ⟨rfl, h'⟩
    | ptr => simp [killO] at h

/-- A new variable. -/
theorem Sim.newBox (h : Sim X M0 w0 N M β γ σ a w) {l : Nat} {cs : List (D κ)} {arr : Array Value} {T : TypeId} {t0 : Option Tg} (hl : l < N) (hn : arr.size = cs.length) (h1 : ∀ i, i < cs.length → (arr.getD i undef).oneCell' = true)
    (hr : ∀ i d, cs[i]? = some d → Rep X.V M w d (arr.getD i undef)) (h0 : ∀ g e, t0 = some (.own g e) → 0 < arr.size ∧ OwnV (γ g) e (arr.getD 0 undef)) :
    Sim X M0 w0 N M (fun i => if i = l then w.heap.size else β i) γ (σ.box l cs (ownOnly t0)) (a.put (some l) (.pointer (some ⟨w.heap.size, 0, none⟩))) (w.alloc (.cells arr T)) := by
  have hg : Sim X M0 w0 N M β γ σ a (w.alloc (.cells arr T)) := h.grow ((Below.refl _ _).alloc (Nat.le_refl _) _) (fun _ _ h => h) (fun _ _ h => .inl h)
  have hput := fun i => getD_put a l i (.pointer (some ⟨w.heap.size, 0, none⟩)) (by rw [h.sz]; exact hl)
  have hw : ∀ b o, M b o → (w.alloc (.cells arr T)).cell? ⟨b, o, none⟩ = w.cell? ⟨b, o, none⟩ := fun b o hm => ((Below.refl w.heap.size w).alloc (Nat.le_refl _) (.cells arr T)).cell (p := ⟨b, o, none⟩) (h.mlt b o hm)
  have hlt : ∀ k cs, σ.bx k = some cs → β k < w.heap.size := fun k cs hk => by
    obtain ⟨_, _, h2, _⟩ := h.bx k cs hk
    exact heap_lt h2
  have hbx : ∀ k cs', (σ.box l cs (ownOnly t0)).bx k = some cs' → (k = l ∧ cs' = cs) ∨ (k ≠ l ∧ σ.bx k = some cs') := by
    intro k cs' hk
    by_cases e : k = l
    · subst e
      simp only [St.box, beq_yes, cond_true, Option.some.injEq] at hk
      exact .inl ⟨rfl, hk.symm⟩
    · simp only [St.box, beq_no e, cond_false] at hk
      exact .inr ⟨e, hk⟩
  refine ⟨hg.below, h.df, by simp [Act.put, h.sz], h.m0, h.mN, hg.mlt, ?_, ?_, ?_, ?_, ?_, hg.gr, ?_, h.gi, ?_, ?_, ?_⟩
  · intro i
    rw [hput]
    by_cases e : i = l
    · subst e
      simp only [St.box, beq_yes, cond_true, if_true]
      exact .opq
    · simp only [St.box, beq_no e, cond_false, if_neg e]
      exact hg.fr i
  · intro k cs' hk
    rcases hbx k cs' hk with ⟨rfl, rfl⟩ | ⟨e, hk⟩
    · simp only [if_true]
      exact ⟨arr, T, heap_alloc_new w _, hn, h1, fun i d hd => (hr i d hd).mono (fun _ _ h => h) hw⟩
    · simp only [if_neg e]
      exact hg.bx k cs' hk
  · intro k cs' hk
    rcases hbx k cs' hk with ⟨rfl, rfl⟩ | ⟨e, hk⟩
    · simp only [if_true]
      exact h.below.size
    · simp only [if_neg e]
      exact h.bB k cs' hk
  · intro k cs' o hk hm
    rcases hbx k cs' hk with ⟨rfl, rfl⟩ | ⟨e, hk⟩
    · simp only [if_true] at hm
      have := h.mlt _ _ hm
      omega
    · simp only [if_neg e] at hm
      exact h.bm k cs' o hk hm
  · intro k k' c c' hk hk' e
    rcases hbx k c hk with ⟨rfl, rfl⟩ | ⟨e1, hk1⟩ <;> rcases hbx k' c' hk' with ⟨rfl, rfl⟩ | ⟨e2, hk2⟩
    · rfl
    · simp only [if_true, if_neg e2] at e
      have := hlt k' c' hk2
      omega
    · simp only [if_true, if_neg e1] at e
      have := hlt k c hk1
      omega
    · simp only [if_neg e1, if_neg e2] at e
      exact h.bi k k' c c' hk1 hk2 e
  · intro g G k c hG hk
    obtain ⟨_, _, _, _, cur, h5, _⟩ := h.gr g G hG
    have := heap_lt h5
    rcases hbx k c hk with ⟨rfl, rfl⟩ | ⟨e1, hk⟩
    · simp only [if_true]
      omega
    · simp only [if_neg e1]
      exact h.gb g G k c hG hk
  · intro t k o ht hk
    rw [hput]
    by_cases e : t = l
    · subst e
      simp only [St.box, beq_yes, cond_true, Option.some.injEq, Tg.ptr.injEq] at ht
      obtain ⟨rfl, rfl⟩ := ht
      simp
    · simp only [St.box, beq_no e, cond_false] at ht
      obtain ⟨ht, hne⟩ := killP_ptr ht
      simp only [if_neg e, if_neg hne]
      refine h.tp t k o ht ?_
      simpa [St.box, beq_no hne] using hk
  · intro t g e ht
    rw [hput]
    by_cases e' : t = l
    · subst e'
      simp [St.box, beq_yes] at ht
    · simp only [St.box, beq_no e', cond_false] at ht
      rw [if_neg e']
      exact h.to t g e (killP_own ht)
  · intro k o g e cs' ht hk
    rcases hbx k cs' hk with ⟨rfl, rfl⟩ | ⟨e1, hk⟩
    · simp only [St.box, beq_yes, cond_true] at ht
      by_cases ho : o = 0
      · subst ho
        simp only [beq_yes, cond_true] at ht
        obtain ⟨h3, h4⟩ := h0 g e (ownOnly_own ht)
        refine ⟨arr.getD 0 undef, ?_, h4⟩
        simp only [if_true]
        rw [cell_of_row _ _ _ _ _ _ (heap_alloc_new w _)]
        simp [Array.getD, h3]
      · simp [beq_no ho] at ht
    · simp only [St.box, beq_no e1, cond_false] at ht
      simp only [if_neg e1]
      exact hg.tc k o g e cs' ht hk

theorem Below.setRow {B : Nat} {w : World} {g : Nat} (arr : Array Value) (hg : B ≤ g) : Below B w (w.setRow g arr) :=
  ⟨rfl, rfl, rfl, by simp [World.setRow], fun k hk => setRow_other w g k arr (by omega)⟩

theorem cell_setRow_other (w : World) (g k o : Nat) (arr : Array Value) (h : k ≠ g) : (w.setRow g arr).cell? ⟨k, o, none⟩ = w.cell? ⟨k, o, none⟩ :=
  World.cell?_of_block (w := w) (setRow_other w g k arr h)

/-- Cells of an own variable are written. -/
theorem Sim.stored (h : Sim X M0 w0 N M β γ σ a w) {l off n : Nat} {cs cs' : List (D κ)} {arr arr' : Array Value} {T : TypeId} {t0 : Option Tg} (hl : σ.bx l = some cs) (ha : w.heap[β l]? = some (.cells arr T (0, 0))) (hn : arr'.size = cs'.length)
    (h1 : ∀ i, i < cs'.length → (arr'.getD i undef).oneCell' = true) (hr : ∀ i d, cs'[i]? = some d → Rep X.V M w d (arr'.getD i undef)) (hold : ∀ i, ¬ (off ≤ i ∧ i < off + n) → arr'[i]? = arr[i]?)
    (h0 : ∀ g e, t0 = some (.own g e) → n = 1 ∧ ∃ x, arr'[off]? = some x ∧ OwnV (γ g) e x) :
    Sim X M0 w0 N M β γ (σ.store l off n cs' (ownOnly t0)) a (w.setRow (β l) arr') := by
  have hB := h.bB l cs hl
  have hM : ∀ b o, M b o → b ≠ β l := fun b o hm e => h.bm l cs o hl (e ▸ hm)
  have hw : ∀ b o, M b o → (w.setRow (β l) arr').cell? ⟨b, o, none⟩ = w.cell? ⟨b, o, none⟩ := fun b o hm => cell_setRow_other w _ b o arr' (hM b o hm)
  have hbx : ∀ k c, (σ.store l off n cs' (ownOnly t0)).bx k = some c → (k = l ∧ c = cs') ∨ (k ≠ l ∧ σ.bx k = some c) := by
    intro k c hk
    by_cases e : k = l
    · subst e
      simp only [St.store, beq_yes, cond_true, Option.some.injEq] at hk
      exact .inl ⟨rfl, hk.symm⟩
    · simp only [St.store, beq_no e, cond_false] at hk
      exact .inr ⟨e, hk⟩
  have hne : ∀ k c, k ≠ l → σ.bx k = some c → β k ≠ β l := fun k c e hk e2 => e (h.bi k l c cs hk hl e2)
  have hnew := setRow_heap w (β l) arr arr' T (0, 0) ha
  have hbl : ∀ k c, (σ.store l off n cs' (ownOnly t0)).bx k = some c → ∃ c', σ.bx k = some c' := fun k c hk => by
    rcases hbx k c hk with ⟨rfl, rfl⟩ | ⟨_, hk1⟩
    · exact ⟨_, hl⟩
    · exact ⟨_, hk1⟩
  refine ⟨h.below.trans (Below.setRow arr' hB), h.df, h.sz, h.m0, h.mN, fun b o hm => by simpa [World.setRow] using h.mlt b o hm, fun i => (h.fr i).mono (fun _ _ h => h) hw, ?_, ?_, ?_, ?_, ?_, ?_, h.gi, ?_, h.to, ?_⟩
  · intro k c hk
    rcases hbx k c hk with ⟨rfl, rfl⟩ | ⟨e, hk1⟩
    · exact ⟨arr', T, hnew, hn, h1, fun i d hd => (hr i d hd).mono (fun _ _ h => h) hw⟩
    · exact (h.bx k c hk1).keep (setRow_other w _ _ arr' (hne k c e hk1)) (fun _ _ h => h) hw
  · intro k c hk
    obtain ⟨c', hk1⟩ := hbl k c hk
    exact h.bB k c' hk1
  · intro k c o hk
    obtain ⟨c', hk1⟩ := hbl k c hk
    exact h.bm k c' o hk1
  · intro k k' c c' hk hk' e
    obtain ⟨_, hk1⟩ := hbl k c hk
    obtain ⟨_, hk2⟩ := hbl k' c' hk'
    exact h.bi k k' _ _ hk1 hk2 e
  · intro g G hG
    obtain ⟨g1, g2, g3, g4, cur, g5, g6⟩ := h.gr g G hG
    exact ⟨g1, g2, g3, g4, cur, (setRow_other w _ _ arr' (h.gb g G l cs hG hl)).trans g5, g6⟩
  · intro g G k c hG hk
    obtain ⟨_, hk1⟩ := hbl k c hk
    exact h.gb g G k _ hG hk1
  · intro t k o ht hk
    refine h.tp t k o ht ?_
    intro e
    by_cases e' : k = l
    · subst e'; rw [hl] at e; cases e
    · simp only [St.store, beq_no e', cond_false] at hk
      exact hk e
  · intro k o g e c ht hk
    rcases hbx k c hk with ⟨rfl, rfl⟩ | ⟨e1, hk1⟩
    · simp only [St.store, beq_yes, Bool.true_and] at ht
      by_cases hin : off ≤ o ∧ o < off + n
      · have hb : (Nat.ble off o && Nat.blt o (off + n)) = true := by
          rw [Bool.and_eq_true]
          exact ⟨Nat.ble_eq_true_of_le hin.1, Nat.ble_eq_true_of_le hin.2⟩
        rw [hb, cond_true] at ht
        obtain ⟨hn1, x, hx, ho⟩ := h0 g e (ownOnly_own ht)
        have hoo : o = off := by omega
        subst hoo
        exact ⟨x, (cell_of_row _ _ _ _ _ _ hnew).trans hx, ho⟩
      · have hb : (Nat.ble off o && Nat.blt o (off + n)) = false := by
          cases hb : (Nat.ble off o && Nat.blt o (off + n))
          · rfl
          · rw [Bool.and_eq_true] at hb
            exact absurd ⟨Nat.le_of_ble_eq_true hb.1, Nat.le_of_ble_eq_true hb.2⟩ hin
        rw [hb, cond_false] at ht
        obtain ⟨x, hx, ho⟩ := h.tc k o g e cs ht hl
        refine ⟨x, ?_, ho⟩
        rw [cell_of_row _ _ _ _ _ _ ha] at hx
        rw [cell_of_row _ _ _ _ _ _ hnew, hold o hin]
        exact hx
    · have hkl : Nat.beq k l = false := beq_no e1
      simp only [St.store, hkl, Bool.false_and, cond_false] at ht
      obtain ⟨x, hx, ho⟩ := h.tc k o g e c ht hk1
      exact ⟨x, (cell_setRow_other w _ _ _ _ (hne k c e1 hk1)).trans hx, ho⟩
end
end Go.Proofs.YtfbelaifhgnnlaaDoor
