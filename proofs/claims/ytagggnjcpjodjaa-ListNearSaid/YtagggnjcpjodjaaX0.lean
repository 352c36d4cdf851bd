/-
  Own rows that a function of the library changes in place; strings.Join.
-/
import Derived.Test.YtagggnjcpjodjaaN18
import Derived.Sort.Grow
namespace Go.Proofs.Ytagggnjcpjodjaa
open Go.RowKit
set_option linter.unusedVariables false
set_option linter.unusedSimpArgs false
section
variable {κ : Type} {X : Cx κ} {α : Type} [Inhabited α]
theorem holds_row {enc : α → Value} {w : World} {β : Bt} {b e c : Nat} {arr : Array Value} {l : List α} {dflt : α} (hA : w.heap[b]? = some (.cells arr e (0, 0))) (hsz : arr.size = c * 1) (hn : l.length ≤ c)
    (hc : ∀ i, i < l.length → arr.getD i undef = enc (l.getD i dflt)) : Go.Sort.Holds enc w b 0 l.toArray := by
  intro j hj
  have hj : j < l.length := by simpa using hj
  rw [Nat.zero_add]
  refine ⟨?_, ?_⟩
  · rw [cell_of_row _ _ _ _ _ _ hA]
    have h1 : j < arr.size := by omega
    have h2 := hc j hj
    simp [Array.getD, h1] at h2
    rw [Array.getElem?_eq_getElem h1, h2]
    simp [List.getD, hj]
  · simp [World.frozen?, hA]
theorem SpH.of_row {f : FuncId} {e : Nat} {enc : α → Value} (he1 : (X.T e).size = 1) {l r : List α} (hr : r.length = l.length) (dflt : α) (hmem : ∀ x ∈ r, x ∈ l ∨ okB (enc x) = true) (hE : Ent X.P f) (d : D κ) (val : Nat → Nat → Value) (valN : Value)
    (hd : ∀ M w β b c, β 2000 = some (some (b, c)) → l.length ≤ c → c ≤ maxLen → Rep X.V M w β d (val b c)) (hdN : l.length = 0 → ∀ M w β, β 2000 = some none → Rep X.V M w β d valN)
    (hn : l.length = 0 → ∀ w, Calls X.P f #[.slice none 0 0] w fun e w' => e = .returned valN ∧ w' = w)
    (hc : ∀ b c w, Go.Sort.Holds enc w b 0 l.toArray → b < w.heap.size → l.length ≤ c → Calls X.P f #[.slice (some ⟨b, 0, none⟩) l.length c] w fun e w' => e = .returned (val b c) ∧ ∃ n os, w' = Go.Sort.grow (Go.Sort.putRow enc (Go.Sort.ahead w n) b 0 r.toArray) os) :
    SpH X f [.own 2000 1 0 l.length] [(2000, .row e l.length (fun i _ => .v (enc (l.getD i dflt))))] d [(2000, .row e l.length (fun i _ => .v (enc (r.getD i dflt))))] := by
  refine ⟨hE, fun M β w vs hG hMG hM hl hrr hH hb => ?_⟩
  have hv := hrr 0 _ rfl
  have evs : vs = #[vs.getD 0 undef] := by
    apply Array.ext
    · simpa using hl
    · intro i h1 h2
      obtain rfl : i = 0 := by simp at h2; exact h2
      simp [Array.getD, h1]
  have hone : ∀ b, blocks β [(2000, (.row e l.length (fun i _ => .v (enc (l.getD i dflt))) : Ob κ))] b ↔ ∃ c, β 2000 = some (some (b, c)) := fun b => by
    constructor
    · rintro ⟨k, o, c, hm, hβ⟩
      obtain ⟨rfl, _⟩ := Prod.mk.inj (List.mem_singleton.1 hm)
      exact ⟨c, hβ⟩
    · rintro ⟨c, hβ⟩
      exact ⟨2000, _, c, List.mem_singleton.2 rfl, hβ⟩
  have hone' : ∀ b, blocks β [(2000, (.row e l.length (fun i _ => .v (enc (r.getD i dflt))) : Ob κ))] b → ∃ c, β 2000 = some (some (b, c)) := fun b => by
    rintro ⟨k, o, c, hm, hβ⟩
    obtain ⟨rfl, _⟩ := Prod.mk.inj (List.mem_singleton.1 hm)
    exact ⟨c, hβ⟩
  obtain ⟨hk, ho⟩ := (hH.ob 2000 _ (List.mem_singleton.2 rfl)).2
  rw [evs]
  rcases ho with ⟨hβ, h0⟩ | ⟨b, c, arr, hβ, hA, hsz, hnc, hcm, hby, hcell, hvis⟩
  · have e0 : vs.getD 0 undef = .slice none 0 0 := by
      generalize vs.getD 0 undef = x at hv
      rw [h0] at hv
      cases hv with
      | own h _ _ => rw [hβ] at h; cases h
      | ownE ho _ _ => exact absurd ho (Nat.lt_irrefl _)
      | ownNil _ => rfl
    rw [e0]
    refine (hn h0 w).mono fun e' w' ⟨he, hw⟩ => ?_
    subst hw
    refine ⟨valN, M, β, he, Kp.refl _ _ _, fun _ _ _ => rfl, fun _ _ h => h, fun _ _ h => .inl h, hdN h0 M w' β hβ, ⟨fun k o hm => ?_, fun k o k' o' b c c' hm hm' h1 h2 => ?_⟩, fun b hb' => ?_⟩
    · obtain ⟨rfl, rfl⟩ := Prod.mk.inj (List.mem_singleton.1 hm)
      exact ⟨rfl, hk, .inl ⟨hβ, h0⟩⟩
    · obtain ⟨rfl, _⟩ := Prod.mk.inj (List.mem_singleton.1 hm)
      obtain ⟨rfl, _⟩ := Prod.mk.inj (List.mem_singleton.1 hm')
      rfl
    · obtain ⟨c, h⟩ := hone' b hb'
      exact .inl ((hone b).2 ⟨c, h⟩)
  · rw [he1] at hsz hcell hvis
    have e0 : vs.getD 0 undef = .slice (some ⟨b, 0, none⟩) l.length c := by
      generalize vs.getD 0 undef = x at hv
      generalize l.length = n at hv
      cases hv with
      | own h _ _ =>
        rw [hβ] at h
        injection h with h
        injection h with h
        injection h with h1 h2
        subst h1 h2
        simp
      | ownE ho _ _ => exact absurd ho (Nat.lt_irrefl _)
      | ownNil h => rw [hβ] at h; cases h
    rw [e0]
    have hval : ∀ i, i < l.length → arr.getD i undef = enc (l.getD i dflt) ∧ okB (enc (l.getD i dflt)) = true := fun i hi => by
      have h1 := (hcell i 0 hi (Nat.lt_succ_self 0)).2.val
      rw [Nat.mul_one, Nat.add_zero] at h1
      exact h1
    have hbw : b < w.heap.size := by
      rcases Nat.lt_or_ge b w.heap.size with h | h
      · exact h
      · rw [Array.getElem?_eq_none h] at hA; cases hA
    refine (hc b c w (holds_row (β := β) hA hsz hnc fun i hi => (hval i hi).1) hbw hnc).mono fun e' w' ⟨he, n, os, hw⟩ => ?_
    have hheap : ∀ k, k < w.heap.size → w'.heap[k]? = (w.heap.modify b (Go.Sort.onCells (Go.Sort.putCells enc 0 r.toArray)))[k]? := fun k hk => by
      subst hw
      rw [Go.Sort.heap_grow_old _ _ (by rw [Go.Sort.size_putRow]; exact hk)]
      rfl
    have hsize : w'.heap.size = w.heap.size + os.size := by subst hw; rw [Go.Sort.size_grow, Go.Sort.size_putRow]; rfl
    have hok : ∀ x ∈ r, okB (enc x) = true := fun x hx => (hmem x hx).elim (fun hx => by
      obtain ⟨i, hi, rfl⟩ := List.getElem_of_mem hx
      have := (hval i hi).2
      simpa [List.getD, hi] using this) id
    refine ⟨val b c, M, β, he, ⟨by subst hw; rfl, by subst hw; rfl, by subst hw; rfl, by omega, fun k hk hs => ?_⟩, fun _ _ _ => rfl, fun _ _ h => h, fun _ _ h => .inl h, hd M w' β b c hβ hnc hcm, ⟨fun k o hm => ?_, fun k o k' o' b c c' hm hm' h1 h2 => ?_⟩, fun b hb' => ?_⟩
    · rw [hheap k hk, Array.getElem?_modify, if_neg]
      intro e
      exact hs ((hone k).2 ⟨c, e ▸ hβ⟩)
    · obtain ⟨rfl, rfl⟩ := Prod.mk.inj (List.mem_singleton.1 hm)
      refine ⟨rfl, hk, .inr ⟨b, c, Go.Sort.putCells enc 0 r.toArray arr, hβ, ?_, ?_, hnc, hcm, hby, fun i j hi hj => ?_, ?_⟩⟩
      · rw [hheap b hbw, Array.getElem?_modify, if_pos rfl, hA]
        rfl
      · rw [he1]; simp [Go.Sort.putCells, hsz]
      · rw [he1] at hj
        obtain rfl : j = 0 := by omega
        have h1 : i < arr.size := by omega
        have h2 : i < r.length := by omega
        have h3 : (Go.Sort.putCells enc 0 r.toArray arr).getD (i * (X.T e).size + 0) undef = enc (r.getD i dflt) := by
          rw [he1, Nat.mul_one, Nat.add_zero]
          simp [Array.getD, Go.Sort.putCells, h1, h2, List.getD]
        rw [h3]
        have h4 : r.getD i dflt ∈ r := by simp [List.getD, h2]
        exact ⟨okB_one (hok _ h4), .v (hok _ h4)⟩
      · rw [he1]; exact hvis
    · obtain ⟨rfl, _⟩ := Prod.mk.inj (List.mem_singleton.1 hm)
      obtain ⟨rfl, _⟩ := Prod.mk.inj (List.mem_singleton.1 hm')
      rfl
    · obtain ⟨c, h⟩ := hone' b hb'
      exact .inl ((hone b).2 ⟨c, h⟩)
/-- The first argument says more. -/
theorem Sp.arg {f : FuncId} {d0 d0' d : D κ} {ds : List (D κ)} (h : Sp X f (d0 :: ds) d) (hd : Dle X d0' d0) : Sp X f (d0' :: ds) d := by
  have key : ∀ {M : Nat → Nat → Prop} {β : Bt} {w : World} {vs : Array Value}, (∀ i e, (d0' :: ds)[i]? = some e → Rep X.V M w β e (vs.getD i undef)) → ∀ i e, (d0 :: ds)[i]? = some e → Rep X.V M w β e (vs.getD i undef) := fun hr i e he => by
    match i, he with
    | 0, he =>
      simp only [List.getElem?_cons_zero, Option.some.injEq] at he
      subst he
      exact hd _ _ _ _ (hr 0 _ rfl)
    | i + 1, he => exact hr (i + 1) e (by simpa using he)
  rcases h with h | h
  · exact .inl ⟨h.1, fun M β w vs hG hMG hM hl hr hp hb => h.2 M β w vs hG hMG hM hl (key hr) hp hb⟩
  · exact .inr fun M β w vs hl hr => h M β w vs hl (key hr)
end
namespace mpx
theorem mset_mem {κ : Type} {es : List (Value × D κ)} {k : Value} {d : D κ} {p : Value × D κ} (h : p ∈ mset es k d) : p = (k, d) ∨ (p ∈ es ∧ p.1 ≠ k) := by
  unfold mset at h
  split at h
  · obtain ⟨q, hq, e⟩ := List.mem_map.1 h
    split at e
    · exact .inl e.symm
    · rename_i hne
      exact .inr ⟨e ▸ hq, e ▸ hne⟩
  · rename_i hno
    rcases List.mem_append.1 h with h | h
    · exact .inr ⟨h, fun e => hno ⟨p, h, e⟩⟩
    · exact .inl (List.mem_singleton.1 h)
theorem mset_new {κ : Type} (es : List (Value × D κ)) (k : Value) (d : D κ) : (k, d) ∈ mset es k d := by
  unfold mset
  split
  · rename_i h
    obtain ⟨q, hq, e⟩ := h
    exact List.mem_map.2 ⟨q, hq, by rw [if_pos e]⟩
  · exact List.mem_append_right _ (List.mem_singleton.2 rfl)
theorem mset_old {κ : Type} {es : List (Value × D κ)} {k : Value} {d : D κ} {p : Value × D κ} (h : p ∈ es) (hne : p.1 ≠ k) : p ∈ mset es k d := by
  unfold mset
  split
  · exact List.mem_map.2 ⟨p, h, by rw [if_neg hne]⟩
  · exact List.mem_append_left _ h
end mpx
end Go.Proofs.Ytagggnjcpjodjaa
