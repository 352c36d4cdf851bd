/-
  A state that can be taken for a loop's head is one, over any program.
-/
import Derived.Test.YteojgenhgjhohaaDoorN10
namespace Go.Proofs.YteojgenhgjhohaaDoor
open Go.RowKit
set_option linter.unusedVariables false
set_option linter.unusedSimpArgs false

section
variable {κ : Type} {X : Cx κ} {M0 M : Nat → Nat → Prop} {S0 : Ln} {w0 w : World} {N : Nat} {β β' : Bt} {σ σ' : St κ} {a : Act}

theorem findB_mem {α : Type} {l : List (Nat × α)} {i : Nat} {x : α} (h : findB l i = some x) : (i, x) ∈ l := by
  induction l with
  | nil => simp [findB] at h
  | cons p r ih =>
    unfold findB at h
    by_cases e : i = p.1
    · subst e
      rw [beq_yes] at h
      injection h with h
      subst h
      exact List.mem_cons_self
    · rw [beq_no e] at h
      exact List.mem_cons_of_mem _ (ih h)
theorem findB_some {α : Type} {l : List (Nat × α)} {i : Nat} (h : i ∈ l.map (·.1)) : ∃ x, findB l i = some x := by
  induction l with
  | nil => simp at h
  | cons p r ih =>
    unfold findB
    by_cases e : i = p.1
    · subst e; rw [beq_yes]; exact ⟨_, rfl⟩
    · rw [beq_no e]
      simp only [List.map_cons, List.mem_cons] at h
      exact ih (h.resolve_left e)
theorem rho_mem {ρ : List (Nat × Option Nat)} {l g : Nat} (h : (l, some g) ∈ ρ) : g ∈ rhoL ρ := by
  induction ρ with
  | nil => cases h
  | cons p r ih =>
    rcases List.mem_cons.1 h with rfl | h
    · simp [rhoL]
    · unfold rhoL
      split
      · exact List.mem_cons_of_mem _ (ih h)
      · exact ih h
theorem rho_inj {ρ : List (Nat × Option Nat)} (hn : (rhoL ρ).Nodup) {l l' g : Nat} (h : (l, some g) ∈ ρ) (h' : (l', some g) ∈ ρ) : l = l' := by
  induction ρ with
  | nil => cases h
  | cons p r ih =>
    unfold rhoL at hn
    rcases List.mem_cons.1 h with e | h1 <;> rcases List.mem_cons.1 h' with e' | h2
    · rw [← e] at e'; injection e' with e' _; exact e'.symm
    · subst e
      simp only [List.nodup_cons] at hn
      exact absurd (rho_mem h2) hn.1
    · subst e'
      simp only [List.nodup_cons] at hn
      exact absurd (rho_mem h1) hn.1
    · refine ih ?_ h1 h2
      split at hn
      · exact (List.nodup_cons.1 hn).2
      · exact hn

def headβ (β : Bt) (ρ : List (Nat × Option Nat)) (W : List Nat) (O : List (Nat × Ob κ)) (R : Rws κ) : Bt := fun l =>
  match findB R l with
  | some _ => (match findB ρ l with | some (some g) => β g | some none => some none | none => none)
  | none => match outB W l || (findB O l).isSome with
    | true => β l
    | false => none

structure Nms (ρ : List (Nat × Option Nat)) (W : List Nat) (O : List (Nat × Ob κ)) (keep : List Nat) (R : Rws κ) : Prop where
  a : (rhoL ρ ++ (keep ++ O.map (·.1))).Nodup
  b : (R.map (·.1) ++ (keep ++ O.map (·.1))).Nodup
  d : ∀ p ∈ ρ, (findB R p.1).isSome = true
  r : ∀ p ∈ R, elemB W p.1 = true
  k : ∀ l ∈ keep, outB W l = true

theorem Nms.kept {ρ : List (Nat × Option Nat)} {W : List Nat} {O : List (Nat × Ob κ)} {keep : List Nat} {R : Rws κ} (h : Nms ρ W O keep R) {l : Nat} (hl : (outB W l || (findB O l).isSome) = true) : findB R l = none ∧ findB ρ l = none ∧ headβ β ρ W O R l = β l := by
  have hR : findB R l = none := by
    cases e : findB R l with
    | none => rfl
    | some x =>
      have h1 : l ∈ R.map (·.1) := List.mem_map.2 ⟨_, findB_mem e, rfl⟩
      rw [Bool.or_eq_true] at hl
      rcases hl with hl | hl
      · have := h.r _ (findB_mem e)
        unfold outB at hl
        rw [this] at hl
        cases hl
      · obtain ⟨o, ho⟩ := Option.isSome_iff_exists.1 hl
        have hm : l ∈ keep ++ O.map (·.1) := List.mem_append_right _ (List.mem_map.2 ⟨_, findB_mem ho, rfl⟩)
        exact absurd rfl ((List.nodup_append.1 h.b).2.2 l h1 l hm)
  have hρ : findB ρ l = none := by
    cases e : findB ρ l with
    | none => rfl
    | some x =>
      have := h.d _ (findB_mem e)
      rw [hR] at this
      cases this
  exact ⟨hR, hρ, by simp only [headβ, hR, hl]⟩

theorem dleR_rep {ρ : List (Nat × Option Nat)} {W : List Nat} {O : List (Nat × Ob κ)} {keep : List Nat} {R : Rws κ} (hN : Nms ρ W O keep R) {d e : D κ} {x : Value} (hd : dleR X ρ d e) (h : Rep X.V M w β d x)
    (hk : ∀ l, (∃ o, e = .ptr l o) ∨ (∃ s o n, e = .own l s o n) ∨ e = .mp l → findB ρ l = none → (outB W l || (findB O l).isSome) = true) : Rep X.V M w (headβ β ρ W O R) e x := by
  unfold dleR at hd
  split at hd
  · rename_i l s o n
    split at hd
    · rename_i g hρ
      split at hd
      · rename_i g' s' o' n'
        obtain ⟨h1, h2, rfl, rfl⟩ := hd
        obtain rfl := Nat.eq_of_beq_eq_true h1
        obtain rfl := Nat.eq_of_beq_eq_true h2
        obtain ⟨r, hr⟩ := Option.isSome_iff_exists.1 (hN.d _ (findB_mem hρ))
        have hβ : headβ β ρ W O R l = β g' := by simp only [headβ, hr, hρ]
        cases h with
        | own hb hn hc => exact .own (hβ.trans hb) hn hc
        | ownE ho hc hA => exact .ownE ho hc hA
        | ownNil hb => exact .ownNil (hβ.trans hb)
      · exact hd.elim
    · rename_i hρ
      split at hd
      · obtain ⟨rfl, rfl⟩ := hd
        obtain ⟨rfl, _⟩ := h.val
        obtain ⟨r, hr⟩ := Option.isSome_iff_exists.1 (hN.d _ (findB_mem hρ))
        exact .ownNil (by simp only [headβ, hr, hρ])
      · exact hd.elim
    · rename_i hρ
      split at hd
      · rename_i g' s' o' n'
        obtain ⟨h1, h2, rfl, rfl⟩ := hd
        obtain rfl := Nat.eq_of_beq_eq_true h1
        obtain rfl := Nat.eq_of_beq_eq_true h2
        have hβ := (hN.kept (β := β) (hk g' (.inr (.inl ⟨_, _, _, rfl⟩)) hρ)).2.2
        cases h with
        | own hb hn hc => exact .own (hβ.trans hb) hn hc
        | ownE ho hc hA => exact .ownE ho hc hA
        | ownNil hb => exact .ownNil (hβ.trans hb)
      · exact hd.elim
  · rename_i l o
    split at hd
    · rename_i hρ
      split at hd
      · rename_i l' o'
        obtain ⟨h1, h2⟩ := hd
        obtain rfl := Nat.eq_of_beq_eq_true h1
        obtain rfl := Nat.eq_of_beq_eq_true h2
        have hβ := (hN.kept (β := β) (hk l' (.inl ⟨_, rfl⟩) hρ)).2.2
        cases h with
        | ptr hb => exact .ptr (hβ.trans hb)
      · exact hd.elim
    · exact hd.elim
  · rename_i l
    split at hd
    · rename_i hρ
      split at hd
      · rename_i l'
        obtain rfl := Nat.eq_of_beq_eq_true hd
        have hβ := (hN.kept (β := β) (hk l' (.inr (.inr rfl)) hρ)).2.2
        cases h with
        | mp hb => exact .mp (hβ.trans hb)
      · exact hd.elim
    · exact hd.elim
  · exact hd.elim
  · exact .opq
  · exact (hd.2 _ _ _ _ h).frzT hd.1
theorem slotsOk_mem {ρ : List (Nat × Option Nat)} {L : List (Nat × D κ)} (h : slotsOk X ρ σ' L) {i : Nat} {d : D κ} (hp : (i, d) ∈ L) : dleA X ρ (σ'.fr i) d := by
  induction L with
  | nil => cases hp
  | cons q r ih =>
    simp only [slotsOk, fD_eq] at h
    rcases List.mem_cons.1 hp with rfl | hp
    · exact h.1
    · exact ih h.2 hp
theorem dleL_spec {ρ : List (Nat × Option Nat)} : ∀ {c cs : List (D κ)}, dleL X ρ c cs → c.length = cs.length ∧ ∀ (i : Nat) (d : D κ), cs[i]? = some d → ∃ e : D κ, c[i]? = some e ∧ dleR X ρ e d
  | [], [], _ => ⟨rfl, fun i d h => by simp at h⟩
  | d :: r, e :: s, h => by
    obtain ⟨h1, h2⟩ := dleL_spec h.2
    refine ⟨by simp [h1], fun i x hi => ?_⟩
    match i, hi with
    | 0, hi =>
      simp only [List.getElem?_cons_zero, Option.some.injEq] at hi
      subst hi
      exact ⟨d, rfl, h.1⟩
    | i + 1, hi =>
      obtain ⟨y, hy, hy2⟩ := h2 i x (by simpa using hi)
      exact ⟨y, by simpa using hy, hy2⟩
  | [], e :: s, h => h.elim
  | d :: r, [], h => h.elim
theorem obsOk_mem {ρ : List (Nat × Option Nat)} {O : List (Nat × Ob κ)} (h : obsOk X ρ σ' O) {l : Nat} {o : Ob κ} (hp : (l, o) ∈ O) :
    (∃ cs es, σ'.ob l = some (.cells cs, false) ∧ o = .cells es ∧ dleL X ρ cs es) ∨ (∃ e n f f', σ'.ob l = some (.row e n f, false) ∧ o = .row e n f' ∧ ∀ i j, i < n → j < (X.T e).size → Dle X (f i j) (f' i j)) ∨ (∃ t es es', σ'.ob l = some (.map t es, false) ∧ o = .map t es' ∧ MLe X es es') ∨ ∃ m n s, σ'.ob l = some (.iter m n s, false) ∧ o = .iter m n s ∧ findB ρ m = none := by
  induction O with
  | nil => cases hp
  | cons q r ih =>
    simp only [obsOk] at h
    rcases List.mem_cons.1 hp with rfl | hp
    · have h1 := h.1
      split at h1
      · rename_i cs es h2 h3
        exact .inl ⟨cs, es, h2, h3, h1⟩
      · rename_i e n f e' n' f' h2 h3
        obtain ⟨h4, h5, h6⟩ := h1
        have h4 := Nat.eq_of_beq_eq_true h4
        subst h4 h5
        exact .inr (.inl ⟨e, n, f, f', h2, h3, h6⟩)
      · rename_i t es t' es' h2 h3
        obtain ⟨h4, h5⟩ := h1
        have h4 := Nat.eq_of_beq_eq_true h4
        subst h4
        exact .inr (.inr (.inl ⟨t, es, es', h2, h3, h5⟩))
      · rename_i m n s m' n' s' h2 h3
        obtain ⟨h4, rfl, rfl, rfl⟩ := h1
        exact .inr (.inr (.inr ⟨m, n, s, h2, h3, h4⟩))
      · exact h1.elim
    · exact ih h.2 hp
theorem keepOk_mem {keep : List Nat} (h : keepOk σ σ' keep) {l : Nat} (hl : l ∈ keep) : σ'.ob l = σ.ob l ∧ σ.ob l ≠ none := by
  induction keep with
  | nil => cases hl
  | cons k r ih =>
    rcases List.mem_cons.1 hl with rfl | hl
    · exact ⟨h.1, h.2.1⟩
    · exact ih h.2.2 hl
theorem rowsOk_mem {ρ : List (Nat × Option Nat)} {R : Rws κ} (h : rowsOk X ρ σ' R) {l e n : Nat} {f : Nat → Nat → D κ} (hp : (l, e, n, f) ∈ R) :
    (X.T e).known = true ∧ ((∃ g f', findB ρ l = some (some g) ∧ σ'.ob g = some (.row e n f', false) ∧ ∀ i j, i < n → j < (X.T e).size → Dle X (f' i j) (f i j)) ∨ (findB ρ l = some none ∧ n = 0)) := by
  induction R with
  | nil => cases hp
  | cons q r ih =>
    simp only [rowsOk] at h
    rcases List.mem_cons.1 hp with rfl | hp
    · obtain ⟨hk, h1, _⟩ := h
      refine ⟨hk, ?_⟩
      split at h1
      · rename_i g hg
        split at h1
        · rename_i e' n' f' ho
          obtain ⟨h4, h5, h6⟩ := h1
          have h4 := Nat.eq_of_beq_eq_true h4
          simp only at h4 h5
          subst h4 h5
          exact .inl ⟨g, f', hg, ho, h6⟩
        · exact h1.elim
      · rename_i hg
        exact .inr ⟨hg, h1⟩
      · exact h1.elim
    · exact ih h.2.2 hp
theorem dleR_rep' {ρ : List (Nat × Option Nat)} {W : List Nat} {O : List (Nat × Ob κ)} {keep : List Nat} {R : Rws κ} (hN : Nms ρ W O keep R) {q : Nat → Bool} (hq : ∀ l, findB ρ l = none → q l = true → (outB W l || (findB O l).isSome) = true) {d e : D κ} {x : Value} (hl : labIn0 q e = true) (hd : dleR X ρ d e) (h : Rep X.V M w β d x) : Rep X.V M w (headβ β ρ W O R) e x := by
  refine dleR_rep hN hd h (fun l he hρ => hq l hρ ?_)
  rcases he with ⟨o, rfl⟩ | ⟨s, o, n, rfl⟩ | rfl <;> exact hl
theorem dleA_rep' {ρ : List (Nat × Option Nat)} {W : List Nat} {O : List (Nat × Ob κ)} {keep : List Nat} {R : Rws κ} (hN : Nms ρ W O keep R) {q : Nat → Bool} (hq : ∀ l, findB ρ l = none → q l = true → (outB W l || (findB O l).isSome) = true) {d e : D κ} {x : Value} (hl : labIn q e = true) (hd : dleA X ρ d e) (h : Rep X.V M w β d x) : Rep X.V M w (headβ β ρ W O R) e x := by
  unfold dleA at hd
  split at hd
  · rename_i cs es
    obtain ⟨h1, h2⟩ := dleL_spec hd
    cases h with
    | agg hn ho hr =>
      refine .agg (by rw [← h1]; exact hn) (fun i hi => ho i (by omega)) (fun i d hi => ?_)
      obtain ⟨c, hc, hle⟩ := h2 i d hi
      exact dleR_rep' hN hq (List.all_eq_true.1 hl d (List.mem_of_getElem? hi)) hle (hr i c hc)
  · rename_i hne
    refine dleR_rep' hN hq ?_ hd h
    cases e with
    | agg es => rfl
    | _ => exact hl

theorem ObAt.cells_to {l g : Nat} {cs es : List (D κ)} {z : Bool} (h : ObAt X M w β g (.cells cs) z) (hb : β' l = β g) (hl : cs.length = es.length) (hr : ∀ arr, RepC X.V M w β cs arr → RepC X.V M w β' es arr) : ObAt X M w β' l (.cells es) z := by
  obtain ⟨b, c, arr, T, h1, h2, h3, h4⟩ := h
  exact ⟨b, c, arr, T, hb.trans h1, h2, hr arr h3, by rw [← hl]; exact h4⟩
theorem ObAt.row_to {l g e n : Nat} {f f' : Nat → Nat → D κ} {z : Bool} (h : ObAt X M w β g (.row e n f) z) (hb : β' l = β g) (hf : ∀ i j, i < n → j < (X.T e).size → Dle X (f i j) (f' i j)) : ObAt X M w β' l (.row e n f') z := by
  obtain ⟨hk, h⟩ := h
  refine ⟨hk, ?_⟩
  rcases h with ⟨h1, h2⟩ | ⟨b, c, arr, h1, h2, h3, h4, h5, h6, h7, h8⟩
  · exact .inl ⟨hb.trans h1, h2⟩
  · exact .inr ⟨b, c, arr, hb.trans h1, h2, h3, h4, h5, h6, fun i j hi hj => ⟨(h7 i j hi hj).1, hf i j hi hj _ _ _ _ (h7 i j hi hj).2⟩, h8⟩

theorem ObAt.map_to {l g t : Nat} {es es' : List (Value × D κ)} (h : ObAt X M w β g (.map t es) false) (hb : β' l = β g) (hle : MLe X es es') : ObAt X M w β' l (.map t es') false := by
  obtain ⟨h2, h3⟩ := hle
  obtain ⟨e0, hz0, ⟨kf, k, e, m1, m2, m3, m4⟩, b, c, arr, clk, g1, g2, g3, g4, g5⟩ := h
  obtain rfl : es = e0 := Eq.symm hz0
  refine ⟨_, rfl, ⟨kf, k, e, m1, m2, fun p hp => ?_, h2 ▸ m4⟩, b, c, arr, clk, hb.trans g1, g2, g3.trans h2, fun i d hd => ?_, g5⟩
  · have : p.1 ∈ es'.map (·.1) := List.mem_map.2 ⟨p, hp, rfl⟩
    rw [← h2] at this
    obtain ⟨p', hp', e⟩ := List.mem_map.1 this
    exact e ▸ m3 p' hp'
  · have hlen : es.length = es'.length := by simpa using congrArg List.length h2
    have hi : i < es.length := by
      have := (List.getElem?_eq_some_iff.1 hd).1
      simpa [hlen] using this
    have he : (es.map (·.2))[i]? = some es[i].2 := by rw [List.getElem?_map, List.getElem?_eq_getElem hi]; rfl
    exact h3 i _ d he hd _ _ _ _ (g4 i _ he)
theorem Sim.head (h : Sim X M0 S0 w0 N M β σ' a w) {W : List Nat} {L : List (Nat × D κ)} {O : List (Nat × Ob κ)} {keep : List Nat} {R : Rws κ} (hf : ∀ i, elemB W i = false → (σ'.fr i).keepB (outB W) = (σ.fr i).keepB (outB W)) (hf2 : ∀ l, elemB W l = false → σ.ob l = none → σ'.ob l = none) (hgv : σ'.gv = σ.gv) (hlt : ∀ l p, S0.pl l = some p → elemB W l = false) (hh : HeadOk X σ W L O keep R σ') :
    ∃ β', Sim X M0 S0 w0 N M β' (σ.head W L O keep R) a w := by
  obtain ⟨ρ, ⟨n1, n2, n3, n4, n7, n5, n6⟩, hs, ho, hk, hr⟩ := hh
  obtain ⟨n8, n9⟩ := (Bool.and_eq_true _ _ ▸ n7 : _ ∧ _)
  have hN : Nms ρ W O keep R := ⟨nodupB_iff.1 n1, nodupB_iff.1 n2, fun p hp => List.all_eq_true.1 n4 p hp, fun p hp => List.all_eq_true.1 n8 p hp, fun l hl => List.all_eq_true.1 n9 l hl⟩
  have hq : ∀ l, findB ρ l = none → (outB W l || (findB O l).isSome || (findB R l).isSome) = true → (outB W l || (findB O l).isSome) = true := by
    intro l hρ h1
    cases e : findB R l with
    | none => rw [e] at h1; simpa using h1
    | some r =>
      obtain ⟨_, h2⟩ := rowsOk_mem hr (findB_mem e)
      rcases h2 with ⟨g, f', h2, _⟩ | ⟨h2, _⟩ <;> rw [hρ] at h2 <;> cases h2
  have hkept : ∀ l, (outB W l || (findB O l).isSome) = true → headβ β ρ W O R l = β l := fun l hl => (hN.kept (β := β) hl).2.2
  -- where an object of the head comes from
  have src : ∀ l o z, (σ.head W L O keep R).ob l = some (o, z) → ObAt X M w (headβ β ρ W O R) l o z ∧
      (o.live = true → headβ β ρ W O R l = some none ∨ ∃ g o' z', σ'.ob g = some (o', z') ∧ (o.live = true → o'.live = true) ∧ headβ β ρ W O R l = β g ∧ ((g = l ∧ l ∈ keep ++ O.map (·.1)) ∨ (l, some g) ∈ ρ)) := by
    intro l o z hl
    simp only [St.head] at hl
    split at hl
    · rename_i r hR
      injection hl with hl
      injection hl with e1 e2
      subst e1 e2
      obtain ⟨e, n, f⟩ := r
      obtain ⟨hke, h2⟩ := rowsOk_mem hr (findB_mem hR)
      rcases h2 with ⟨g, f', hρ, hg, hle⟩ | ⟨hρ, hn⟩
      · have hb : headβ β ρ W O R l = β g := by simp only [headβ, hR, hρ]
        exact ⟨(h.ob g _ _ hg).row_to hb hle, fun _ => .inr ⟨g, _, _, hg, fun _ => rfl, hb, .inr (findB_mem hρ)⟩⟩
      · have hb : headβ β ρ W O R l = some none := by simp only [headβ, hR, hρ]
        exact ⟨⟨hke, .inl ⟨hb, hn⟩⟩, fun _ => .inl hb⟩
    · split at hl
      · rename_i hR o1 hO
        injection hl with hl
        injection hl with e1 e2
        subst e1 e2
        have hin : (outB W l || (findB O l).isSome) = true := by rw [hO]; simp
        have hb := hkept l hin
        have hm : l ∈ keep ++ O.map (·.1) := List.mem_append_right _ (List.mem_map.2 ⟨_, findB_mem hO, rfl⟩)
        rcases obsOk_mem ho (findB_mem hO) with ⟨cs, es, h1, rfl, h3⟩ | ⟨e, n, f, f', h1, rfl, h3⟩ | ⟨t, es, es', h1, rfl, h3⟩ | ⟨m, n, s, h1, rfl, h3⟩
        · obtain ⟨hlen, h4⟩ := dleL_spec h3
          refine ⟨(h.ob l _ _ h1).cells_to hb hlen (fun arr hR' => ⟨by rw [← hlen]; exact hR'.n, fun i hi => hR'.o i (by omega), fun i d hi => ?_⟩), fun _ => .inr ⟨l, _, _, h1, fun _ => rfl, hb, .inl ⟨rfl, hm⟩⟩⟩
          obtain ⟨c, hc, hle⟩ := h4 i d hi
          have hlab := List.all_eq_true.1 n6 _ (findB_mem hO)
          exact dleR_rep' hN hq (List.all_eq_true.1 hlab d (List.mem_of_getElem? hi)) hle (hR'.r i c hc)
        · exact ⟨(h.ob l _ _ h1).row_to hb h3, fun _ => .inr ⟨l, _, _, h1, fun _ => rfl, hb, .inl ⟨rfl, hm⟩⟩⟩
        · exact ⟨(h.ob l _ _ h1).map_to hb h3, fun _ => .inr ⟨l, _, _, h1, fun _ => rfl, hb, .inl ⟨rfl, hm⟩⟩⟩
        · have hlab : (outB W m || (findB O m).isSome || (findB R m).isSome) = true := List.all_eq_true.1 n6 _ (findB_mem hO)
          obtain ⟨hz, b, c, bm, cm, sa, g1, g2, g3, g4⟩ := h.ob l _ _ h1
          exact ⟨⟨hz, b, c, bm, cm, sa, hb.trans g1, g2, (hkept m (hq m h3 hlab)).trans g3, g4⟩, fun _ => .inr ⟨l, _, _, h1, fun _ => rfl, hb, .inl ⟨rfl, hm⟩⟩⟩
      · split at hl
        · rename_i hR hO hke
          have hin : (outB W l || (findB O l).isSome) = true := by rw [hN.k l (elemB_mem.1 hke)]; rfl
          have hb := hkept l hin
          have hm : l ∈ keep ++ O.map (·.1) := List.mem_append_left _ (elemB_mem.1 hke)
          obtain ⟨hsame, _⟩ := keepOk_mem hk (elemB_mem.1 hke)
          split at hl
          · rename_i cs z' hob
            injection hl with hl
            injection hl with e1 e2
            subst e1 e2
            rw [hob] at hsame
            refine ⟨(h.ob l _ _ hsame).cells_to hb (by simp) (fun arr hR' => ⟨by simpa using hR'.n, fun i hi => hR'.o i (by simpa using hi), fun i d hi => ?_⟩), fun _ => .inr ⟨l, _, _, hsame, fun _ => rfl, hb, .inl ⟨rfl, hm⟩⟩⟩
            obtain ⟨c, hc, rfl⟩ := map_some hi
            exact (hR'.r i c hc).keepB (fun k hk' => hkept k (by rw [hk']; rfl))
          · injection hl with hl
            injection hl with e1 e2
            subst e1 e2
            exact ⟨trivial, fun h => by cases h⟩
          · rename_i hob hob2
            rw [hl] at hsame
            refine ⟨?_, fun _ => .inr ⟨l, _, _, hsame, fun h => h, hb, .inl ⟨rfl, hm⟩⟩⟩
            have h1 := h.ob l _ _ hsame
            cases o with
            | cells cs => exact absurd hl (hob cs z)
            | row e n f => exact h1.row_to hb (fun i j _ _ => Dle.refl X _)
            | map t es => exact h1.imp fun _ ⟨p1, p2, b, c, arr, clk, q1, q2⟩ => ⟨p1, p2, b, c, arr, clk, hb.trans q1, q2⟩
            | iter m n s => exact absurd hl (hob2 m n s z)
            | dead => trivial
        · rename_i hR hO hke
          split at hl
          · cases hl
          · rename_i hWl
            split at hl
            · rename_i p hob
              injection hl with hl
              injection hl with e1 e2
              subst e1 e2
              exact ⟨trivial, fun h => by cases h⟩
            · cases hl
  refine ⟨headβ β ρ W O R, h.kp, h.df, h.sz, h.m0, h.mN, h.mlt, ?_, fun l o z hl => (src l o z hl).1, ?_, ?_, ?_, fun g => hgv ▸ h.gv g, fun l p hl => (hkept l (by unfold outB; rw [hlt l p hl]; rfl)).trans (h.le l p hl)⟩
  · intro i
    simp only [St.head]
    cases hW : elemB W i with
    | true =>
      cases hL : findB L i with
      | none => exact .opq
      | some d =>
        have hlab := List.all_eq_true.1 n5 _ (findB_mem hL)
        exact dleA_rep' hN hq hlab (slotsOk_mem hs (findB_mem hL)) (h.fr i)
    | false =>
      have := h.fr i
      rw [← hf i hW]
      exact this.keepB (fun k hk' => hkept k (by rw [hk']; rfl))
  · intro l o z b c hl hv hb
    rcases (src l o z hl).2 hv with h1 | ⟨g, o', z', h1, h2, h3, _⟩
    · rw [h1] at hb; cases hb
    · exact h.oB g o' z' b c h1 (h2 hv) (h3.symm.trans hb)
  · intro l l' o1 o2 z1 z2 b c c' hl hv hl' hv' hb hb'
    rcases (src l o1 z1 hl).2 hv with h1 | ⟨g, o1', z1', h1, h2, h3, h4⟩
    · rw [h1] at hb; cases hb
    rcases (src l' o2 z2 hl').2 hv' with h1' | ⟨g', o2', z2', h1', h2', h3', h4'⟩
    · rw [h1'] at hb'; cases hb'
    have hg := h.oi g g' _ _ _ _ b c c' h1 (h2 hv) h1' (h2' hv') (h3.symm.trans hb) (h3'.symm.trans hb')
    subst hg
    have hap := List.nodup_append.1 hN.a
    rcases h4 with ⟨rfl, h4⟩ | h4 <;> rcases h4' with ⟨h5, h4'⟩ | h4'
    · exact h5
    · exact absurd rfl (hap.2.2 _ (rho_mem h4') _ h4)
    · exact absurd rfl (hap.2.2 _ (rho_mem h4) _ (h5 ▸ h4'))
    · exact rho_inj hap.1 h4 h4'
  · intro l hl
    simp only [St.head] at hl
    split at hl
    · cases hl
    · rename_i hR
      split at hl
      · cases hl
      · rename_i hO
        split at hl
        · rename_i hke
          obtain ⟨hsame, hne⟩ := keepOk_mem hk (elemB_mem.1 hke)
          split at hl
          · cases hl
          · cases hl
          · exact absurd hl hne
        · rename_i hke
          split at hl
          · rename_i hWl
            simp only [headβ, hR]
            have : (outB W l || (findB O l).isSome) = false := by unfold outB; rw [hWl, hO]; rfl
            rw [this]
          · rename_i hWl
            have hin : (outB W l || (findB O l).isSome) = true := by unfold outB; rw [hWl]; rfl
            split at hl
            · cases hl
            · rename_i hob
              rw [hkept l hin]
              exact h.un l (hf2 l hWl hob)
end
end Go.Proofs.YteojgenhgjhohaaDoor
