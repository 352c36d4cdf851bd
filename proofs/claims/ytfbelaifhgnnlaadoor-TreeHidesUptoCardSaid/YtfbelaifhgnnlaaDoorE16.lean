/-
  Regions whose order is open, over any program: the text's order tells them all.
-/
import Derived.Test.YtfbelaifhgnnlaaDoorE15
import Derived.StillTail
namespace Go.Proofs.YtfbelaifhgnnlaaDoor
open Go.RowKit
set_option linter.unusedVariables false
set_option linter.unusedSimpArgs false

section
variable {κ : Type} {X : Cx κ} {M0 M : Nat → Nat → Prop} {w0 w : World} {N : Nat} {β : Nat → Nat} {γ : Nat → Option Grp} {σ : St κ} {a : Act}

/-- An operation that does what is asked comes to a state. -/
theorem wp_ex {P : Program} {o : Oper} {K : Act → World → Prop} (h : o.wp P a w K (fun _ _ _ => False)) : ∃ a' w', K a' w' := by
  unfold Oper.wp at h
  generalize (execOp a.eval o).run P w = r at h
  cases r with
  | ok n w' =>
    cases n with
    | value v => exact ⟨_, _, h⟩
    | skip => exact ⟨_, _, h⟩
    | defer d => exact ⟨_, _, h⟩
    | enter f args =>
      obtain ⟨e, w'', fr, hR, _⟩ := h []
      cases e with
      | returned v => exact ⟨_, _, hR⟩
      | panicked c => exact hR.elim
      | outgrown => obtain ⟨_, _, hq⟩ := hR; exact hq.elim
    | row row args =>
      obtain ⟨v, w'', hR, _⟩ := h default []
      exact ⟨_, _, hR⟩
    | _ => exact h.elim
  | halt x w' =>
    cases x with
    | panic v => exact h.elim
    | _ => exact h.elim

theorem runs_of (hG : X.G w0) {all : List Oper} {K : St κ → Prop} : ∀ (l : List Oper) (lb : List (Option Nat)), (∀ o ∈ l, opOk N o = true) → ∀ (M : Nat → Nat → Prop) (β : Nat → Nat) (γ : Nat → Option Grp) (σ : St κ) (a : Act) (w : World), Sim X M0 w0 N M β γ σ a w → opsWd X all K l lb σ →
    ∃ σ' bs, Runs X all (l.zip bs) σ σ' ∧ bs.length = l.length ∧ drawOk all (lb.reverse ++ bs) = true ∧ K σ'
  | [], lb, _, M, β, γ, σ, a, w, h, hW => ⟨σ, [], .nil, rfl, by rw [List.append_nil]; exact hW.1, hW.2⟩
  | o :: r, lb, hok, M, β, γ, σ, a, w, h, hW => by
    have ih := fun lb => runs_of hG (all := all) (K := K) r lb (fun o ho => hok o (List.mem_cons_of_mem _ ho))
    obtain ⟨hd, hst⟩ := opOk_dst (hok o List.mem_cons_self)
    have run : wantE all o σ = some true → opWd X o σ (opsWd X all K r (labW o σ :: lb)) → ∃ σ' bs, Runs X all ((o :: r).zip bs) σ σ' ∧ bs.length = (o :: r).length ∧ drawOk all (lb.reverse ++ bs) = true ∧ K σ' := fun hw hW => by
      obtain ⟨σ1, h1, h2⟩ := step_pick h hW
      obtain ⟨a', w', M', β', γ', σ2, hs, he⟩ := wp_ex (step_sound hG h hd hst h1)
      subst he
      obtain ⟨σ', bs, h3, h4, h5, h6⟩ := ih _ M' β' γ' _ a' w' hs h2
      have hl : labG all o σ = labW o σ := by simp only [labG, hw]
      refine ⟨σ', labW o σ :: bs, .cons ⟨hl, ?_⟩ h3, by simp [h4], by rw [List.reverse_cons, List.append_assoc] at h5; exact h5, h6⟩
      rcases h1 with ⟨d, t, h1, e⟩ | ⟨q, h1⟩ | h1
      · exact .inl ⟨d, t, .inl ⟨hw, h1⟩, e⟩
      · exact .inr (.inl ⟨q, hw, h1⟩)
      · exact .inr (.inr ⟨hw, h1⟩)
    have skip : wantE all o σ = some false → opsWd X all K r (none :: lb) (σ.put o.dst .und none) → ∃ σ' bs, Runs X all ((o :: r).zip bs) σ σ' ∧ bs.length = (o :: r).length ∧ drawOk all (lb.reverse ++ bs) = true ∧ K σ' := fun hw hW => by
      obtain ⟨σ', bs, h3, h4, h5, h6⟩ := ih _ M β γ _ _ w (h.put0 hd .und) hW
      have hl : labG all o σ = none := by simp only [labG, hw]
      exact ⟨σ', none :: bs, .cons ⟨hl, .inl ⟨.und, none, .inr ⟨hw, rfl, rfl⟩, rfl⟩⟩ h3, by simp [h4], by rw [List.reverse_cons, List.append_assoc] at h5; exact h5, h6⟩
    unfold opsWd at hW
    split at hW
    · rename_i hg
      rw [fO_eq] at hW
      exact run (by simp [wantE, hg]) hW
    · rename_i j want hg
      split at hW
      · rename_i t ht
        split at hW
        · rename_i b hb
          simp only [fO_eq] at hW
          rcases condW_spec hW with ⟨rfl, hW⟩ | ⟨rfl, hW⟩
          · rw [setB_eq hb] at hW
            cases want
            · exact skip (by simp [wantE, hg, ht, hb]) hW
            · exact run (by simp [wantE, hg, ht, hb]) hW
          · rw [setB_eq hb] at hW
            cases want
            · exact run (by simp [wantE, hg, ht, hb]) hW
            · exact skip (by simp [wantE, hg, ht, hb]) hW
        · rename_i hb
          exact skip (by simp [wantE, hg, ht, hb]) hW
        · exact hW.elim
      · exact hW.elim

theorem aptB_spec {ops : List Oper} {x y : Oper} {lx ly : Option Nat} (h : aptB ops x y lx ly = true) : Apart ops x y lx ly := by
  unfold aptB at h
  simp only [Bool.and_eq_true, Bool.not_eq_true'] at h
  obtain ⟨⟨⟨h1, h2⟩, h3⟩, h4⟩ := h
  refine ⟨⟨fun k hk => ?_, fun k hk => ?_, fun k hk e => ?_⟩, h3, h4⟩
  · rw [hk] at h1
    simp only [Bool.and_eq_true, Bool.not_eq_true'] at h1
    exact h1.1
  · rw [hk] at h2
    simpa using h2
  · rw [hk, e] at h1
    simp [beq_yes] at h1

theorem step_fr {all : List Oper} {o : Oper} {b : Option Nat} {σ σ' : St κ} (h : StepG X all o b σ σ') : Fr (opDst o) σ σ' := by
  obtain ⟨_, h⟩ := h
  rcases h with ⟨d, t, _, rfl⟩ | ⟨q, _, hs⟩ | ⟨_, l, hs⟩
  · exact fr_put _ _ _ _
  · cases hs with
    | alloc ho hl hb hk => exact fr_box hl _ _ _
    | box ho hl hb hg => exact fr_box hl _ _ _
    | app ho hk ha hs => exact fr_app hk _ _ _ _
  · cases hs with
    | mk ho _ _ _ _ _ _ => exact fr_store _ _ _ _ _ _ _
theorem runs_fr {all : List Oper} {W : List Nat} : ∀ {l : List (Oper × Option Nat)} {σ σ' : St κ}, (∀ o ∈ l, ∀ k ∈ opDst o.1, k ∈ W) → Runs X all l σ σ' → Fr W σ σ'
  | [], σ, σ', _, h => by cases h; exact Fr.refl _ _
  | p :: l, σ, σ', hin, h => by
    cases h with
    | @cons o b _ _ _ _ h hr =>
      have h1 := step_fr h
      refine Fr.trans ⟨fun i hi => h1.fr i ?_, fun i l' o' hi hl ht => h1.tp i l' o' ?_ ?_ ht⟩ (runs_fr (fun o ho => hin o (List.mem_cons_of_mem _ ho)) hr)
      all_goals
        cases e : elemB (opDst o) _
        · rfl
        · have := elemB_mem.2 (hin (o, b) List.mem_cons_self _ (elemB_mem.1 e))
          simp_all
/-- What has come up is closed: whatever an operation waits for has come up before it. -/
def Closed (ops : List Oper) (listed : Array Bool) : Prop := ∀ i o, ops[i]? = some o → listed.getD i false = true → ∀ e ∈ o.after, Region.binds .any e = true → listed.getD e.on false = true
theorem behind_listed {ops : List Oper} {listed : Array Bool} (hc : Closed ops listed) : ∀ (n i j : Nat) (o : Oper), ops[i]? = some o → (∀ e ∈ o.after, Region.binds .any e = true → listed.getD e.on false = true) → behind ops n i j = true → listed.getD j false = true
  | 0, _, _, _, _, _, h => by cases h
  | n + 1, i, j, o, ho, hall, h => by
    unfold behind at h
    rw [ho] at h
    simp only [List.any_eq_true, Bool.and_eq_true, Bool.or_eq_true] at h
    obtain ⟨e, he, hb, h⟩ := h
    have he' : e ∈ o.after := by simpa using he
    have hl := hall e he' hb
    rcases h with h | h
    · rw [← Nat.eq_of_beq_eq_true h]; exact hl
    · cases ho2 : ops[e.on]? with
      | none =>
        cases n with
        | zero => cases h
        | succ n => unfold behind at h; rw [ho2] at h; cases h
      | some o2 => exact behind_listed hc n e.on j o2 ho2 (fun e2 he2 hb2 => hc e.on o2 ho2 hl e2 he2 hb2) h

/-- The operations that have not come up, in the text's order. -/
def left (ops : List Oper) (listed : Array Bool) : List Nat := (List.range ops.length).filter fun i => !listed.getD i true


theorem range_sorted (n : Nat) : (List.range n).Pairwise (· < ·) := List.pairwise_lt_range
theorem left_mem {ops : List Oper} {listed : Array Bool} {i : Nat} : i ∈ left ops listed ↔ i < ops.length ∧ listed.getD i true = false := by
  simp [left]
theorem left_set {ops : List Oper} {listed : Array Bool} {i : Nat} {pre post : List Nat} (h : left ops listed = pre ++ i :: post) : left ops (listed.setIfInBounds i true) = pre ++ post := by
  have hs : (left ops listed).Pairwise (· < ·) := (range_sorted _).filter _
  have e1 : left ops (listed.setIfInBounds i true) = (left ops listed).filter (fun k => k != i) := by
    unfold left
    rw [List.filter_filter]
    congr 1
    funext k
    by_cases hk : k = i
    · subst hk
      by_cases hlt : k < listed.size
      · simp [Array.getD, hlt]
      · simp [Array.getD, hlt]
    · have : (listed.setIfInBounds i true).getD k true = listed.getD k true := getD_set_ne true (Ne.symm hk)
      simp [this, hk]
  rw [e1, h]
  rw [h, List.pairwise_append, List.pairwise_cons] at hs
  obtain ⟨_, ⟨h2, _⟩, h3⟩ := hs
  rw [List.filter_append, List.filter_cons]
  have ha : pre.filter (fun k => k != i) = pre := List.filter_eq_self.2 fun k hk => by
    have := h3 k hk i List.mem_cons_self
    simp; omega
  have hb : post.filter (fun k => k != i) = post := List.filter_eq_self.2 fun k hk => by
    have := h2 k hk
    simp; omega
  simp [ha, hb]

theorem drawOk_spec {ops : List Oper} {lb : List (Option Nat)} (h : drawOk ops lb = true) {i : Nat} {o : Oper} (ho : ops[i]? = some o) : (∀ e ∈ o.after, Region.binds .any e = true → e.on < i) ∧ ∀ j x, j < i → ops[j]? = some x → behind ops ops.length i j = true ∨ aptB ops x o (lb.getD j none) (lb.getD i none) = true := by
  have hi : i < ops.length := (List.getElem?_eq_some_iff.1 ho).1
  have h1 := List.all_eq_true.1 h i (List.mem_range.2 hi)
  rw [Bool.and_eq_true] at h1
  refine ⟨fun e he hb => ?_, fun j x hj hx => ?_⟩
  · have h2 := h1.1
    rw [ho] at h2
    have h3 := List.all_eq_true.1 h2 e (by simpa using he)
    rw [hb] at h3
    exact Nat.le_of_ble_eq_true h3
  · have h2 := List.all_eq_true.1 h1.2 j (List.mem_range.2 hj)
    rw [hx, ho, Bool.or_eq_true] at h2
    exact h2

theorem any_sound (hG : X.G w0) {ops : List Oper} {Q : Exit → Act → World → Prop} {σf : St κ} (hok : ∀ o ∈ ops, opOk N o = true) {lb : List (Option Nat)} (hdr : drawOk ops lb = true) (hQ : ∀ M β γ a w, Sim X M0 w0 N M β γ σf a w → Q .normal a w) :
    ∀ (fuel : Nat) (listed : Array Bool) (M : Nat → Nat → Prop) (β : Nat → Nat) (γ : Nat → Option Grp) (σ : St κ) (a : Act) (w : World), listed.size = ops.length → Closed ops listed → (left ops listed).length ≤ fuel → Sim X M0 w0 N M β γ σ a w →
      Runs X ops ((left ops listed).filterMap fun i => (ops[i]?).map fun o => (o, lb.getD i none)) σ σf → wpAny X.P .any ops.toArray Q fuel listed a w := by
  intro fuel
  have none_left : ∀ (listed : Array Bool) (M : Nat → Nat → Prop) (β : Nat → Nat) (γ : Nat → Option Grp) (σ : St κ) (a : Act) (w : World), left ops listed = [] → Sim X M0 w0 N M β γ σ a w → Runs X ops ((left ops listed).filterMap fun i => (ops[i]?).map fun o => (o, lb.getD i none)) σ σf → Q .normal a w := by
    intro listed M β γ σ a w h0 hs hr
    rw [h0] at hr
    cases hr
    exact hQ M β γ a w hs
  have ready_left : ∀ (listed : Array Bool) i, i ∈ Region.ready .any ops.toArray listed → i ∈ left ops listed := by
    intro listed i hi
    obtain ⟨h1, o, ho, _⟩ := mem_ready.1 hi
    refine left_mem.2 ⟨?_, h1⟩
    simpa using (Array.getElem?_eq_some_iff.1 ho).1
  induction fuel with
  | zero =>
    intro listed M β γ σ a w hsz hcl hlen hs hr
    have h0 : left ops listed = [] := List.eq_nil_of_length_eq_zero (by omega)
    refine ⟨?_, none_left listed M β γ σ a w h0 hs hr⟩
    cases hrd : Region.ready .any ops.toArray listed with
    | nil => rfl
    | cons x xs =>
      have := ready_left listed x (by rw [hrd]; exact List.mem_cons_self)
      rw [h0] at this
      cases this
  | succ fuel ih =>
    intro listed M β γ σ a w hsz hcl hlen hs hr
    refine ⟨fun hrd => ?_, fun i hi => ?_⟩
    · -- the least that is left would be ready
      refine none_left listed M β γ σ a w ?_ hs hr
      cases hl : left ops listed with
      | nil => rfl
      | cons i post =>
        have him : i ∈ left ops listed := by rw [hl]; exact List.mem_cons_self
        obtain ⟨hlt, hun⟩ := left_mem.1 him
        have hsort : (left ops listed).Pairwise (· < ·) := (range_sorted _).filter _
        rw [hl, List.pairwise_cons] at hsort
        have : i ∈ Region.ready .any ops.toArray listed := by
          refine mem_ready.2 ⟨hun, ops[i], by simp [hlt], fun e he hb => ?_⟩
          have h1 := (drawOk_spec hdr (List.getElem?_eq_getElem hlt)).1 e he hb
          cases hg : listed.getD e.on false with
          | true => rfl
          | false =>
            have hlt2 : e.on < listed.size := by omega
            have : listed.getD e.on true = false := by simp [Array.getD, hlt2] at hg ⊢; exact hg
            have hm : e.on ∈ left ops listed := left_mem.2 ⟨by omega, this⟩
            rw [hl] at hm
            rcases List.mem_cons.1 hm with h2 | h2
            · omega
            · have := hsort.1 _ h2; omega
        rw [hrd] at this
        cases this
    · obtain ⟨hun, o, ho, hall⟩ := mem_ready.1 hi
      have him := ready_left listed i hi
      obtain ⟨pre, post, hpp⟩ := List.append_of_mem him
      have ho' : ops[i]? = some o := by simpa using ho
      have hsort : (left ops listed).Pairwise (· < ·) := (range_sorted _).filter _
      rw [hpp, List.pairwise_append] at hsort
      rw [hpp, List.filterMap_append, List.filterMap_cons, ho'] at hr
      simp only [Option.map_some] at hr
      obtain ⟨σ1, h1, h2⟩ := hr.front (fun x hx => by
        obtain ⟨j, hj, hjx⟩ := List.mem_filterMap.1 hx
        obtain ⟨x, hjx', rfl⟩ := Option.map_eq_some_iff.1 hjx
        have hji := hsort.2.2 j hj i List.mem_cons_self
        have hjl : j ∈ left ops listed := by rw [hpp]; exact List.mem_append_left _ hj
        rcases (drawOk_spec hdr ho').2 j x hji hjx' with hb | hb
        · have := behind_listed hcl _ i j o ho' hall hb
          have h3 := (left_mem.1 hjl).2
          have hlt : j < listed.size := by rw [hsz]; exact (left_mem.1 hjl).1
          simp [Array.getD, hlt] at this h3
          rw [this] at h3
          cases h3
        · exact aptB_spec hb)
      refine stepG_wp hG hs ho' (hok o (List.mem_of_getElem? ho')) h1 (fun M' β' γ' a' w' hs' => ?_)
      refine ih (listed.setIfInBounds i true) M' β' γ' σ1 a' w' (by simpa using hsz) ?_ ?_ hs' ?_
      · intro k ok hk hlk e he hb
        by_cases hki : i = k
        · subst hki
          have : ok = o := Option.some.inj (hk.symm.trans ho')
          subst this
          exact getD_set_true (hall e he hb)
        · rw [getD_set_ne false hki] at hlk
          exact getD_set_true (hcl k ok hk hlk e he hb)
      · rw [left_set hpp]
        rw [hpp] at hlen
        simp only [List.length_append, List.length_cons] at hlen ⊢
        omega
      · rw [left_set hpp, List.filterMap_append]
        exact h2
end
end Go.Proofs.YtfbelaifhgnnlaaDoor
