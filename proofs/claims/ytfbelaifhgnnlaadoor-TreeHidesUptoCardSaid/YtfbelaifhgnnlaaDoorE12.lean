/-
  A call's code does what 'codeW' says; a function's contract out of it, over any program.
-/
import Derived.Test.YtfbelaifhgnnlaaDoorE11
namespace Go.Proofs.YtfbelaifhgnnlaaDoor
open Go.RowKit
set_option linter.unusedVariables false
set_option linter.unusedSimpArgs false

section
variable {κ : Type} {X : Cx κ} {M0 M : Nat → Nat → Prop} {w0 w : World} {N : Nat} {β : Nat → Nat} {γ : Nat → Option Grp} {σ σ' : St κ} {a : Act}

theorem slotsOk_mem {L : List (Nat × D κ × Option Tg)} (h : slotsOk X σ' L) {i : Nat} {p : D κ × Option Tg} (hp : (i, p) ∈ L) : Dle X (σ'.fr i) p.1 ∧ tagOk σ' i p.2 := by
  induction L with
  | nil => cases hp
  | cons q r ih =>
    rcases List.mem_cons.1 hp with rfl | hp
    · have := h.1
      rw [fD_eq] at this
      exact this
    · exact ih h.2 hp
theorem boxesOk_mem {B : List (Nat × List (D κ))} (h : boxesOk X σ' B) {l : Nat} {cs : List (D κ)} (hp : (l, cs) ∈ B) : ∃ c, σ'.bx l = some c ∧ cellsOk X c cs := by
  induction B with
  | nil => cases hp
  | cons q r ih =>
    rcases List.mem_cons.1 hp with rfl | hp
    · have := h.1
      simp only at this
      split at this
      · rename_i c hc; exact ⟨c, hc, this⟩
      · exact this.elim
    · exact ih h.2 hp
theorem keepOk_mem {keep : List Nat} (h : keepOk σ σ' keep) {l : Nat} (hl : l ∈ keep) : σ'.bx l = σ.bx l := by
  induction keep with
  | nil => cases hl
  | cons q r ih =>
    rcases List.mem_cons.1 hl with rfl | hl
    · exact h.1
    · exact ih h.2 hl
theorem tagsOk_mem {C : List (Nat × List (Nat × Nat × Nat))} (h : tagsOk σ' C) {l : Nat} {r : List (Nat × Nat × Nat)} (hp : (l, r) ∈ C) {q : Nat × Nat × Nat} (hq : q ∈ r) : σ'.tg (.c l q.1) = some (.own q.2.1 q.2.2) := by
  induction C with
  | nil => cases hp
  | cons p s ih =>
    rcases List.mem_cons.1 hp with rfl | hp
    · exact h.1 q hq
    · exact ih h.2 hp
theorem cellsOk_spec : ∀ {c cs : List (D κ)}, cellsOk X c cs → c.length = cs.length ∧ ∀ (i : Nat) (d : D κ), cs[i]? = some d → ∃ e : D κ, c[i]? = some e ∧ Dle X e d
  | [], [], _ => ⟨rfl, fun i d h => by simp at h⟩
  | d :: r, e :: s, h => by
    obtain ⟨h1, h2⟩ := cellsOk_spec h.2
    refine ⟨by simp [h1], fun i x hi => ?_⟩
    match i, hi with
    | 0, hi =>
      simp only [List.getElem?_cons_zero, Option.some.injEq] at hi
      subst hi
      exact ⟨d, rfl, h.1⟩
    | i + 1, hi =>
      obtain ⟨y, hy, hy2⟩ := h2 i x (by simpa using hi)
      exact ⟨y, by simpa using hy, hy2⟩
  | [], e :: s, h => h.elim
  | d :: r, [], h => h.elim

theorem labelsL_mem {L : List (Nat × D κ × Option Tg)} {i g e : Nat} {d : D κ} (h : (i, d, some (.own g e)) ∈ L) : g ∈ labelsL L := by
  induction L with
  | nil => cases h
  | cons q r ih =>
    rcases List.mem_cons.1 h with rfl | h
    · simp [labelsL]
    · have := ih h
      unfold labelsL
      split
      · exact List.mem_cons_of_mem _ this
      · exact this
theorem labelsC_mem {C : List (Nat × List (Nat × Nat × Nat))} {l : Nat} {r : List (Nat × Nat × Nat)} {q : Nat × Nat × Nat} (h : (l, r) ∈ C) (hq : q ∈ r) : q.2.1 ∈ labelsC C := by
  induction C with
  | nil => cases h
  | cons p s ih =>
    unfold labelsC
    rcases List.mem_cons.1 h with rfl | h
    · exact List.mem_append_left _ (List.mem_map.2 ⟨q, hq, rfl⟩)
    · exact List.mem_append_right _ (ih h)
theorem nodup_app {A B : List Nat} (h : nodupB (A ++ B) = true) {g : Nat} (ha : g ∈ A) (hb : g ∈ B) : False := by
  induction A with
  | nil => cases ha
  | cons k r ih =>
    simp only [List.cons_append, nodupB, Bool.and_eq_true] at h
    rcases List.mem_cons.1 ha with rfl | ha
    · have h1 := h.1
      rw [elemB_mem.2 (List.mem_append_right _ hb)] at h1
      cases h1
    · exact ih h.2 ha
theorem nodup_one {L : List (Nat × D κ × Option Tg)} {A : List Nat} (h : nodupB (labelsL L ++ A) = true) {i i' g e e' : Nat} {d d' : D κ} (h1 : (i, d, some (.own g e)) ∈ L) (h2 : (i', d', some (.own g e')) ∈ L) : i = i' ∧ e = e' := by
  induction L with
  | nil => cases h1
  | cons q r ih =>
    rcases List.mem_cons.1 h1 with rfl | h1r
    · rcases List.mem_cons.1 h2 with h2 | h2
      · injection h2 with h3 h4
        injection h4 with _ h5
        injection h5 with h5
        injection h5 with _ h6
        exact ⟨h3.symm, h6.symm⟩
      · simp only [labelsL, List.cons_append, nodupB, Bool.and_eq_true] at h
        have h4 := h.1
        rw [elemB_mem.2 (List.mem_append_left _ (labelsL_mem h2))] at h4
        cases h4
    · rcases List.mem_cons.1 h2 with rfl | h2
      · simp only [labelsL, List.cons_append, nodupB, Bool.and_eq_true] at h
        have h4 := h.1
        rw [elemB_mem.2 (List.mem_append_left _ (labelsL_mem h1r))] at h4
        cases h4
      · refine ih ?_ h1r h2
        unfold labelsL at h
        split at h
        · simp only [List.cons_append, nodupB, Bool.and_eq_true] at h
          exact h.2
        · exact h

/-- A state that can be taken for the head is one. -/
theorem Sim.head (h : Sim X M0 w0 N M β γ σ' a w) {W : List Nat} {L : List (Nat × D κ × Option Tg)} {B : List (Nat × List (D κ))} {keep : List Nat} {C : List (Nat × List (Nat × Nat × Nat))} (hf : Fr W σ σ') (hh : HeadOk X σ L B keep C σ') :
    ∃ γ', Sim X M0 w0 N M β γ' (σ.head W L B keep C) a w := by
  obtain ⟨hnd, hL, hB, hkeep, hC⟩ := hh
  have hbx : ∀ l cs, (σ.head W L B keep C).bx l = some cs → ∃ c, σ'.bx l = some c ∧ (cellsOk X c cs ∨ c = cs) := by
    intro l cs hl
    simp only [St.head] at hl
    split at hl
    · rename_i cs' hcs
      injection hl with hl
      subst hl
      obtain ⟨c, h1, h2⟩ := boxesOk_mem hB (findB_mem hcs)
      exact ⟨c, h1, .inl h2⟩
    · split at hl
      · rename_i hk
        have := keepOk_mem hkeep (elemB_mem.1 hk)
        exact ⟨cs, this.trans hl, .inr rfl⟩
      · cases hl
  have hbox : ∀ l c cs, σ'.bx l = some c → (cellsOk X c cs ∨ c = cs) → BoxAt X.V M w (β l) cs := by
    intro l c cs hl hc
    obtain ⟨arr, T, h1, h2, h3, h4⟩ := h.bx l c hl
    rcases hc with hc | rfl
    · obtain ⟨h5, h6⟩ := cellsOk_spec hc
      refine ⟨arr, T, h1, by omega, fun i hi => h3 i (by omega), fun i d hd => ?_⟩
      obtain ⟨e, he, hle⟩ := h6 i d hd
      exact hle _ _ _ (h4 i e he)
    · exact ⟨arr, T, h1, h2, h3, h4⟩
  have hlive : ∀ l cs, (σ.head W L B keep C).bx l = some cs → σ'.bx l ≠ none := fun l cs hl e => by
    obtain ⟨c, h1, _⟩ := hbx l cs hl
    rw [h1] at e
    cases e
  -- which groups begin anew
  let isNew : Nat → Prop := fun g => ∃ i d e, (i, d, some (Tg.own g e)) ∈ L ∧ σ'.tg (.s i) ≠ some (.own g e)
  have hown : ∀ i g e d, (i, d, some (Tg.own g e)) ∈ L → OwnV (@ite _ (isNew g) (Classical.propDecidable _) none (γ g)) e (a.tmps.getD i undef) := by
    intro i g e d hm
    have ht := (slotsOk_mem hL hm).2
    by_cases hn : isNew g
    · rw [if_pos hn]
      obtain ⟨i', d', e', hm', hne⟩ := hn
      obtain ⟨rfl, rfl⟩ := nodup_one hnd hm hm'
      rcases ht with ht | ht
      · exact absurd ht hne
      · split at ht
        · rename_i hfr
          have := h.fr i
          rw [hfr] at this
          exact this.val.1
        · exact ht.elim
    · rw [if_neg hn]
      rcases ht with ht | ht
      · exact h.to i g e ht
      · have : σ'.tg (.s i) = some (.own g e) := by
          cases Classical.em (σ'.tg (.s i) = some (.own g e)) with
          | inl h => exact h
          | inr h' => exact absurd ⟨i, d, e, hm, h'⟩ hn
        exact h.to i g e this
  refine ⟨fun g => @ite _ (isNew g) (Classical.propDecidable _) none (γ g), h.below, h.df, h.sz, h.m0, h.mN, h.mlt, ?_, ?_, ?_, ?_, ?_, ?_, ?_, ?_, ?_, ?_, ?_⟩
  · intro i
    simp only [St.head]
    cases hi : elemB W i
    · simp only
      rw [← hf.fr i hi]
      exact h.fr i
    · simp only
      split
      · rename_i p hp
        exact (slotsOk_mem hL (findB_mem hp)).1 _ _ _ (h.fr i)
      · exact .opq
  · intro l cs hl
    obtain ⟨c, h1, h2⟩ := hbx l cs hl
    exact hbox l c cs h1 h2
  · intro l cs hl
    obtain ⟨c, h1, _⟩ := hbx l cs hl
    exact h.bB l c h1
  · intro l cs o hl
    obtain ⟨c, h1, _⟩ := hbx l cs hl
    exact h.bm l c o h1
  · intro l l' cs cs' hl hl' e
    obtain ⟨c, h1, _⟩ := hbx l cs hl
    obtain ⟨c', h2, _⟩ := hbx l' cs' hl'
    exact h.bi l l' c c' h1 h2 e
  · intro g G hg
    split at hg
    · cases hg
    · exact h.gr g G hg
  · intro g G l cs hg hl
    split at hg
    · cases hg
    · obtain ⟨c, h1, _⟩ := hbx l cs hl
      exact h.gb g G l c hg h1
  · intro g g' G G' hg hg' e
    split at hg
    · cases hg
    · split at hg'
      · cases hg'
      · exact h.gi g g' G G' hg hg' e
  · intro t l o ht hl
    have hl' : σ'.bx l ≠ none := by
      cases hb : (σ.head W L B keep C).bx l with
      | none => exact absurd hb hl
      | some cs => exact hlive l cs hb
    refine h.tp t l o ?_ hl'
    simp only [St.head] at ht
    split at ht
    · split at ht
      · rename_i p hp
        have h1 := (slotsOk_mem hL (findB_mem hp)).2
        rw [ht] at h1
        rcases h1 with h1 | h1
        · exact h1
        · simp only at h1
      · cases ht
    · rename_i hi
      split at ht
      · rename_i l' o' hs
        split at ht
        · cases ht
        · rename_i hl2
          injection ht with ht
          injection ht with h1 h2
          subst h1 h2
          exact hf.tp t l' o' hi hl2 hs
      · split at ht
        · exact absurd ht ownOnly_ptr
        · cases ht
  · intro t g e ht
    simp only [St.head] at ht
    split at ht
    · split at ht
      · rename_i p hp
        obtain ⟨d, tt⟩ := p
        simp only at ht
        subst ht
        exact hown t g e d (findB_mem hp)
      · cases ht
    · split at ht
      · split at ht <;> cases ht
      · split at ht
        · rename_i p hp
          obtain ⟨d, tt⟩ := p
          have ht := ownOnly_own ht
          simp only at ht
          subst ht
          exact hown t g e d (findB_mem hp)
        · cases ht
  · intro l o g e cs ht hl
    obtain ⟨c, h1, _⟩ := hbx l cs hl
    simp only [St.head] at ht
    split at ht
    · rename_i r hr
      split at ht
      · rename_i p hp
        injection ht with ht
        injection ht with e1 e2
        subst e1 e2
        have hm := findB_mem hp
        have htag := tagsOk_mem hC (findB_mem hr) hm
        obtain ⟨x, hx, ho⟩ := h.tc l o p.1 p.2 c htag h1
        refine ⟨x, hx, ?_⟩
        rw [if_neg]
        · exact ho
        · intro ⟨i, d, e, hmL, _⟩
          exact nodup_app hnd (labelsL_mem hmL) (labelsC_mem (findB_mem hr) hm)
      · cases ht
    · cases ht
end
end Go.Proofs.YtfbelaifhgnnlaaDoor
