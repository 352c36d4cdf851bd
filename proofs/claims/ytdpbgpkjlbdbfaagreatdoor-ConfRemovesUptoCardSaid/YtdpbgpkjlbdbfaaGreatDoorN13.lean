/-
  A call's code does what 'codeW' says; a function's contract out of it, over any program.
-/
import Derived.Test.YtdpbgpkjlbdbfaaGreatDoorN11
namespace Go.Proofs.YtdpbgpkjlbdbfaaGreatDoor
open Go.RowKit
set_option linter.unusedVariables false
set_option linter.unusedSimpArgs false

section
variable {κ : Type} {X : Cx κ} {M0 M : Nat → Nat → Prop} {S0 : Ln} {w0 w : World} {N : Nat} {β : Bt} {σ σ' : St κ} {a : Act}

def opOk (N : Nat) (o : Oper) : Bool := (match o.dst with | some k => Nat.blt k N | none => true) && (bif noDst o.op then o.dst.isNone else true)
/-- A region's operations with cuts: between them a family of states stands for what is known there. -/
inductive RegW (X : Cx κ) (all : List Oper) (K : St κ → Prop) : List Oper → St κ → Prop where
  | run {l : List Oper} {σ : St κ} (h : opsW X all K l σ) : RegW X all K l σ
  | cut {l : List Oper} {σ : St κ} (n : Nat) {ι : Type} (L : ι → List (Nat × D κ)) (O : ι → List (Nat × Ob κ)) (keep : List Nat) (R : ι → Rws κ) (inv : ι → Prop)
      (h1 : opsW X all (fun σ' => ∃ y, inv y ∧ HeadOk X σ ((l.take n).flatMap opDst) (L y) (O y) keep (R y) σ') (l.take n) σ)
      (h2 : ∀ y, inv y → RegW X all K (l.drop n) (σ.head ((l.take n).flatMap opDst) (L y) (O y) keep (R y))) : RegW X all K l σ
theorem yielded_bool {all : List Oper} {j t : Nat} {b : Bool} (h : Sim X M0 S0 w0 N M β σ a w) (ht : (all[j]?).bind (·.dst) = some t) (hb : σ.fr t = .v (.bool b)) : yielded all.toArray a.tmps j = some b := by
  have h1 := h.fr t
  rw [hb] at h1
  obtain ⟨h2, _⟩ := h1.val
  have h3 : a.tmps[t]? = some (.bool b) := by
    by_cases hi : t < a.tmps.size
    · rw [Array.getElem?_eq_getElem hi]
      have : a.tmps.getD t undef = a.tmps[t] := by simp [Array.getD, hi]
      rw [← this, h2]
    · have : a.tmps.getD t undef = undef := by simp [Array.getD, hi]
      rw [this] at h2
      cases h2
  unfold yielded
  simp only [List.getElem?_toArray, ht, Option.bind_some, h3]
theorem yielded_und {all : List Oper} {j t : Nat} (h : Sim X M0 S0 w0 N M β σ a w) (ht : (all[j]?).bind (·.dst) = some t) (hb : σ.fr t = .und) : yielded all.toArray a.tmps j = none := by
  have h1 := h.fr t
  rw [hb] at h1
  have h2 : a.tmps.getD t undef = undef := by
    generalize a.tmps.getD t undef = y at h1
    cases h1
    rfl
  unfold yielded
  simp only [List.getElem?_toArray, ht, Option.bind_some]
  by_cases hi : t < a.tmps.size
  · rw [Array.getElem?_eq_getElem hi]
    have : a.tmps.getD t undef = a.tmps[t] := by simp [Array.getD, hi]
    rw [← this, h2]
    rfl
  · simp [hi]

/-- What a region's operations leave. -/
def PostF (X : Cx κ) (M0 : Nat → Nat → Prop) (S0 : Ln) (w0 : World) (N : Nat) (W : List Nat) (σ0 : St κ) (K : St κ → Prop) (a : Act) (w : World) : Prop := ∃ M β σ, Sim X M0 S0 w0 N M β σ a w ∧ K σ ∧ Fr W σ0 σ

theorem opOk_dst {o : Oper} (h : opOk N o = true) : (∀ k, o.dst = some k → k < N) ∧ (noDst o.op = true → o.dst = none) := by
  unfold opOk at h
  rw [Bool.and_eq_true] at h
  refine ⟨fun k hk => ?_, fun ho => ?_⟩
  · have := h.1
    rw [hk] at this
    exact Nat.le_of_ble_eq_true this
  · have := h.2
    rw [ho] at this
    simpa using this

theorem opsW_sound (hG : X.G w0) (hMG : ∀ b o, X.MG b o → M0 b o) (hS : ∀ b, S0 b → X.nG ≤ b) {all : List Oper} {K : St κ → Prop} {Q : Exit → Act → World → Prop} {W : List Nat} {σ0 : St κ} {l2 : List Oper} (hQ : ∀ a w, PostF X M0 S0 w0 N W σ0 K a w → wpList X.P all.toArray Q l2 a w) :
    ∀ (l : List Oper), (∀ o ∈ l, opOk N o = true) → (∀ o ∈ l, ∀ k ∈ opDst o, k ∈ W) → ∀ (M : Nat → Nat → Prop) (β : Bt) (σ : St κ) (a : Act) (w : World), Sim X M0 S0 w0 N M β σ a w → Fr W σ0 σ → opsW X all K l σ → wpList X.P all.toArray Q (l ++ l2) a w
  | [], _, _, M, β, σ, a, w, h, hf, hW => hQ a w ⟨M, β, σ, h, hW, hf⟩
  | o :: r, hok, hin, M, β, σ, a, w, h, hf, hW => by
    have ih := opsW_sound hG hMG hS (all := all) hQ r (fun o ho => hok o (List.mem_cons_of_mem _ ho)) (fun o ho => hin o (List.mem_cons_of_mem _ ho))
    obtain ⟨hd, hst⟩ := opOk_dst (hok o List.mem_cons_self)
    have hfr : ∀ {σ1 σ2 : St κ}, Fr W σ0 σ1 → Fr (opDst o) σ1 σ2 → Fr W σ0 σ2 := fun {σ1 σ2} h1 h2 => h1.trans (h2.sub fun k hk => hin o List.mem_cons_self k hk)
    have run : ∀ σ1, Sim X M0 S0 w0 N M β σ1 a w → Fr W σ0 σ1 → opW X o σ1 (opsW X all K r) → Region.wanted o (yielded all.toArray a.tmps) = true → wpList X.P all.toArray Q (o :: (r ++ l2)) a w := by
      intro σ1 h1 hf1 hW1 hwant
      unfold wpList
      rw [if_pos hwant]
      refine .inl (Oper.wp_mono (fun a' w' hp => ?_) (op_sound hG hMG hS h1 o hd (opW_fr hW1) hst))
      obtain ⟨M', β', σ', hs, hk, hf2⟩ := hp
      exact ih M' β' σ' a' w' hs (hfr hf1 hf2) hk
    have skip : ∀ σ1, Sim X M0 S0 w0 N M β σ1 a w → Fr W σ0 σ1 → opsW X all K r (σ1.put o.dst .und) → Region.wanted o (yielded all.toArray a.tmps) = false → wpList X.P all.toArray Q (o :: (r ++ l2)) a w := by
      intro σ1 h1 hf1 hW1 hwant
      unfold wpList
      rw [if_neg (by rw [hwant]; simp)]
      exact ih M β _ _ w (h1.put hd .und) (hfr hf1 (fr_put o σ1 [] .und upd0)) hW1
    unfold opsW at hW
    split at hW
    · rename_i hg
      exact run σ h hf hW (by simp [Region.wanted, hg])
    · rename_i j want hg
      split at hW
      · rename_i t ht
        split at hW
        · rename_i b hb
          have hy := yielded_bool h ht hb
          rcases condW_spec hW with ⟨rfl, hW⟩ | ⟨rfl, hW⟩
          · rw [setB_eq hb] at hW
            cases want
            · exact skip σ h hf hW (by simp [Region.wanted, hg, hy])
            · exact run σ h hf hW (by simp [Region.wanted, hg, hy])
          · rw [setB_eq hb] at hW
            cases want
            · exact run σ h hf hW (by simp [Region.wanted, hg, hy])
            · exact skip σ h hf hW (by simp [Region.wanted, hg, hy])
        · rename_i hb
          exact skip σ h hf hW (by simp [Region.wanted, hg, yielded_und h ht hb])
        · exact hW.elim
      · exact hW.elim

theorem head_fr {W : List Nat} {L : List (Nat × D κ)} {O : List (Nat × Ob κ)} {keep : List Nat} {R : Rws κ} (hf : Fr W σ σ') (hh : HeadOk X σ W L O keep R σ') : Fr W σ (σ.head W L O keep R) := by
  obtain ⟨ρ, ⟨_, _, _, _, n7, _, _⟩, _, ho, _, _⟩ := hh
  rw [Bool.and_eq_true] at n7
  refine ⟨fun i hi => ?_, fun l hl e => ?_, rfl⟩
  · simp only [St.head, hi]
    rw [keepB_and]
    congr 1
    exact funext fun l => Bool.and_self _
  · simp only [St.head]
    split
    · rename_i hR
      have := List.all_eq_true.1 n7.1 _ (findB_mem hR)
      rw [hl] at this
      cases this
    · split
      · rename_i hO
        have h1 := hf.o l hl e
        rcases obsOk_mem ho (findB_mem hO) with ⟨cs, es, h2, _, _⟩ | ⟨e', n, f, f', h2, _, _⟩ | ⟨t, es, es', h2, _, _⟩ <;> rw [h1] at h2 <;> cases h2
      · simp only [e, hl]
        split <;> rfl
theorem regW_sound (hG : X.G w0) (hMG : ∀ b o, X.MG b o → M0 b o) (hS : ∀ b, S0 b → X.nG ≤ b) {all : List Oper} {K : St κ → Prop} {Q : Exit → Act → World → Prop} {W : List Nat} (hL : ∀ l p, S0.pl l = some p → elemB W l = false) {σ0 : St κ} (hQ : ∀ a w, PostF X M0 S0 w0 N W σ0 K a w → Q .normal a w) {l : List Oper} {σ : St κ} (hW : RegW X all K l σ) :
    (∀ o ∈ l, opOk N o = true) → (∀ o ∈ l, ∀ k ∈ opDst o, k ∈ W) → ∀ (M : Nat → Nat → Prop) (β : Bt) (a : Act) (w : World), Sim X M0 S0 w0 N M β σ a w → Fr W σ0 σ → wpList X.P all.toArray Q l a w := by
  induction hW with
  | @run l σ h =>
    intro hok hin M β a w hs hf
    have := opsW_sound hG hMG hS (all := all) (K := K) (Q := Q) (W := W) (σ0 := σ0) (l2 := []) (fun a w hp => hQ a w hp) l hok hin M β σ a w hs hf h
    rwa [List.append_nil] at this
  | @cut l σ n ι L O keep R inv h1 h2 ih =>
    intro hok hin M β a w hs hf
    have hmem : ∀ o ∈ l.take n, o ∈ l := fun o ho => List.mem_of_mem_take ho
    have := opsW_sound hG hMG hS (all := all) (Q := Q) (W := (l.take n).flatMap opDst) (σ0 := σ) (l2 := l.drop n) (fun a' w' hp => by
      obtain ⟨M', β', σ', hs', ⟨y, hy, hh⟩, hf'⟩ := hp
      obtain ⟨β2, hs2⟩ := hs'.head hf'.f hf'.o hf'.g (fun k p hp => elem_not fun hm => by
        obtain ⟨o, ho, hk⟩ := List.mem_flatMap.1 hm
        exact elem_no (hL k p hp) (hin o (hmem o ho) k hk)) hh
      refine ih y hy (fun o ho => hok o (List.mem_of_mem_drop ho)) (fun o ho => hin o (List.mem_of_mem_drop ho)) M' β2 a' w' hs2 (hf.trans ((head_fr hf' hh).sub fun k hk => ?_))
      obtain ⟨o, ho, hk⟩ := List.mem_flatMap.1 hk
      exact hin o (hmem o ho) k hk) (l.take n) (fun o ho => hok o (hmem o ho)) (fun o ho k hk => List.mem_flatMap.2 ⟨o, ho, hk⟩) M β σ a w hs (Fr.refl _ _) h1
    rwa [List.take_append_drop] at this
end
end Go.Proofs.YtdpbgpkjlbdbfaaGreatDoor
