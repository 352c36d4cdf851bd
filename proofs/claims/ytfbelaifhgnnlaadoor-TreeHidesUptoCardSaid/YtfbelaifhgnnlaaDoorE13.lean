/-
  A call's code does what 'codeW' says; a function's contract out of it, over any program.
-/
import Derived.Test.YtfbelaifhgnnlaaDoorE12
namespace Go.Proofs.YtfbelaifhgnnlaaDoor
open Go.RowKit
set_option linter.unusedVariables false
set_option linter.unusedSimpArgs false

section
variable {κ : Type} {X : Cx κ} {M0 M : Nat → Nat → Prop} {w0 w : World} {N : Nat} {β : Nat → Nat} {γ : Nat → Option Grp} {σ σ' : St κ} {a : Act}

theorem yielded_bool {all : List Oper} {j t : Nat} {b : Bool} (h : Sim X M0 w0 N M β γ σ a w) (ht : (all[j]?).bind (·.dst) = some t) (hb : σ.fr t = .v (.bool b)) : yielded all.toArray a.tmps j = some b := by
  have h1 := h.fr t
  rw [hb] at h1
  obtain ⟨h2, _⟩ := h1.val
  have h3 : a.tmps[t]? = some (.bool b) := by
    by_cases hi : t < a.tmps.size
    · rw [Array.getElem?_eq_getElem hi]
      have : a.tmps.getD t undef = a.tmps[t] := by simp [Array.getD, hi]
      rw [← this, h2]
    · have : a.tmps.getD t undef = undef := by simp [Array.getD, hi]
      rw [this] at h2
      cases h2
  unfold yielded
  simp only [List.getElem?_toArray, ht, Option.bind_some, h3]
theorem yielded_und {all : List Oper} {j t : Nat} (h : Sim X M0 w0 N M β γ σ a w) (ht : (all[j]?).bind (·.dst) = some t) (hb : σ.fr t = .und) : yielded all.toArray a.tmps j = none := by
  have h1 := h.fr t
  rw [hb] at h1
  have h2 : a.tmps.getD t undef = undef := by
    generalize a.tmps.getD t undef = y at h1
    cases h1
    rfl
  unfold yielded
  simp only [List.getElem?_toArray, ht, Option.bind_some]
  by_cases hi : t < a.tmps.size
  · rw [Array.getElem?_eq_getElem hi]
    have : a.tmps.getD t undef = a.tmps[t] := by simp [Array.getD, hi]
    rw [← this, h2]
    rfl
  · simp [hi]

/-- What a region's operations leave. -/
def PostF (X : Cx κ) (M0 : Nat → Nat → Prop) (w0 : World) (N : Nat) (W : List Nat) (σ0 : St κ) (K : St κ → Prop) (a : Act) (w : World) : Prop := ∃ M β γ σ, Sim X M0 w0 N M β γ σ a w ∧ K σ ∧ Fr W σ0 σ

theorem opOk_dst {o : Oper} (h : opOk N o = true) : (∀ k, o.dst = some k → k < N) ∧ ∀ t x y, o.op = .store t x y → o.dst = none := by
  unfold opOk at h
  rw [Bool.and_eq_true] at h
  refine ⟨fun k hk => ?_, fun t x y ho => ?_⟩
  · have := h.1
    rw [hk] at this
    exact Nat.le_of_ble_eq_true this
  · have := h.2
    rw [ho] at this
    simpa using this

theorem opsW_sound (hG : X.G w0) {all : List Oper} {K : St κ → Prop} {Q : Exit → Act → World → Prop} {W : List Nat} {σ0 : St κ} {l2 : List Oper} (hQ : ∀ a w, PostF X M0 w0 N W σ0 K a w → wpList X.P all.toArray Q l2 a w) :
    ∀ (l : List Oper), (∀ o ∈ l, opOk N o = true) → (∀ o ∈ l, ∀ k ∈ opDst o, k ∈ W) → ∀ (M : Nat → Nat → Prop) (β : Nat → Nat) (γ : Nat → Option Grp) (σ : St κ) (a : Act) (w : World), Sim X M0 w0 N M β γ σ a w → Fr W σ0 σ → opsW X all K l σ → wpList X.P all.toArray Q (l ++ l2) a w
  | [], _, _, M, β, γ, σ, a, w, h, hf, hW => hQ a w ⟨M, β, γ, σ, h, hW, hf⟩
  | o :: r, hok, hin, M, β, γ, σ, a, w, h, hf, hW => by
    have ih := opsW_sound hG (all := all) hQ r (fun o ho => hok o (List.mem_cons_of_mem _ ho)) (fun o ho => hin o (List.mem_cons_of_mem _ ho))
    obtain ⟨hd, hst⟩ := opOk_dst (hok o List.mem_cons_self)
    have hfr : ∀ {σ1 σ2 : St κ}, Fr W σ0 σ1 → Fr (opDst o) σ1 σ2 → Fr W σ0 σ2 := fun {σ1 σ2} h1 h2 => by
      refine h1.trans ⟨fun i hi => h2.fr i ?_, fun i l o' hi hl ht => h2.tp i l o' ?_ ?_ ht⟩
      all_goals
        cases e : elemB (opDst o) _
        · rfl
        · have := elemB_mem.2 (hin o List.mem_cons_self _ (elemB_mem.1 e))
          simp_all
    have run : ∀ σ1, Sim X M0 w0 N M β γ σ1 a w → Fr W σ0 σ1 → opW X o σ1 (opsW X all K r) → Region.wanted o (yielded all.toArray a.tmps) = true → wpList X.P all.toArray Q (o :: (r ++ l2)) a w := by
      intro σ1 h1 hf1 hW1 hwant
      unfold wpList
      rw [if_pos hwant]
      refine .inl (Oper.wp_mono (fun a' w' hp => ?_) (op_sound hG h1 o hd (opW_fr hW1) hst))
      obtain ⟨M', β', γ', σ', hs, hk, hf2⟩ := hp
      exact ih M' β' γ' σ' a' w' hs (hfr hf1 hf2) hk
    have skip : ∀ σ1, Sim X M0 w0 N M β γ σ1 a w → Fr W σ0 σ1 → opsW X all K r (σ1.put o.dst .und none) → Region.wanted o (yielded all.toArray a.tmps) = false → wpList X.P all.toArray Q (o :: (r ++ l2)) a w := by
      intro σ1 h1 hf1 hW1 hwant
      unfold wpList
      rw [if_neg (by rw [hwant]; simp)]
      exact ih M β γ _ _ w (h1.put0 hd .und) (hfr hf1 (fr_put o σ1 .und none)) hW1
    unfold opsW at hW
    split at hW
    · rename_i hg
      exact run σ h hf hW (by simp [Region.wanted, hg])
    · rename_i j want hg
      split at hW
      · rename_i t ht
        split at hW
        · rename_i b hb
          have hy := yielded_bool h ht hb
          rcases condW_spec hW with ⟨rfl, hW⟩ | ⟨rfl, hW⟩
          · rw [setB_eq hb] at hW
            cases want
            · exact skip σ h hf hW (by simp [Region.wanted, hg, hy])
            · exact run σ h hf hW (by simp [Region.wanted, hg, hy])
          · rw [setB_eq hb] at hW
            cases want
            · exact run σ h hf hW (by simp [Region.wanted, hg, hy])
            · exact skip σ h hf hW (by simp [Region.wanted, hg, hy])
        · rename_i hb
          exact skip σ h hf hW (by simp [Region.wanted, hg, yielded_und h ht hb])
        · exact hW.elim
      · exact hW.elim

theorem Fr.sub {V W : List Nat} {a b : St κ} (h : Fr V a b) (hs : ∀ k ∈ V, k ∈ W) : Fr W a b := by
  have hn : ∀ i, elemB W i = false → elemB V i = false := fun i hi => by
    cases e : elemB V i
    · rfl
    · have := elemB_mem.2 (hs i (elemB_mem.1 e))
      simp_all
  exact ⟨fun i hi => h.fr i (hn i hi), fun i l o' hi hl ht => h.tp i l o' (hn i hi) (hn l hl) ht⟩
theorem head_fr0 {σ : St κ} {W : List Nat} {L : List (Nat × D κ × Option Tg)} {B : List (Nat × List (D κ))} {keep : List Nat} {C : List (Nat × List (Nat × Nat × Nat))} : Fr W σ (σ.head W L B keep C) := by
  refine ⟨fun i hi => ?_, fun i l o hi hl ht => ?_⟩
  · simp only [St.head, hi]
  · simp only [St.head, hi, ht, hl]
theorem regW_sound (hG : X.G w0) {all : List Oper} {K : St κ → Prop} {Q : Exit → Act → World → Prop} {W : List Nat} {σ0 : St κ} (hQ : ∀ a w, PostF X M0 w0 N W σ0 K a w → Q .normal a w) {l : List Oper} {σ : St κ} (hW : RegW X all K l σ) :
    (∀ o ∈ l, opOk N o = true) → (∀ o ∈ l, ∀ k ∈ opDst o, k ∈ W) → ∀ (M : Nat → Nat → Prop) (β : Nat → Nat) (γ : Nat → Option Grp) (a : Act) (w : World), Sim X M0 w0 N M β γ σ a w → Fr W σ0 σ → wpList X.P all.toArray Q l a w := by
  induction hW with
  | @run l σ h =>
    intro hok hin M β γ a w hs hf
    have := opsW_sound hG (all := all) (K := K) (Q := Q) (W := W) (σ0 := σ0) (l2 := []) (fun a w hp => hQ a w hp) l hok hin M β γ σ a w hs hf h
    rwa [List.append_nil] at this
  | @cut l σ n ι L B keep C inv h1 h2 ih =>
    intro hok hin M β γ a w hs hf
    have hmem : ∀ o ∈ l.take n, o ∈ l := fun o ho => List.mem_of_mem_take ho
    have := opsW_sound hG (all := all) (Q := Q) (W := (l.take n).flatMap opDst) (σ0 := σ) (l2 := l.drop n) (fun a' w' hp => by
      obtain ⟨M', β', γ', σ', hs', ⟨y, hy, hh⟩, hf'⟩ := hp
      obtain ⟨γ2, hs2⟩ := hs'.head hf' hh
      refine ih y hy (fun o ho => hok o (List.mem_of_mem_drop ho)) (fun o ho => hin o (List.mem_of_mem_drop ho)) M' β' γ2 a' w' hs2 (hf.trans (head_fr0.sub fun k hk => ?_))
      obtain ⟨o, ho, hk⟩ := List.mem_flatMap.1 hk
      exact hin o (hmem o ho) k hk) (l.take n) (fun o ho => hok o (hmem o ho)) (fun o ho k hk => List.mem_flatMap.2 ⟨o, ho, hk⟩) M β γ σ a w hs (Fr.refl _ _) h1
    rwa [List.take_append_drop] at this
end
end Go.Proofs.YtfbelaifhgnnlaaDoor
