/-
  Own rows that a function of the library changes in place; strings.Join. slices.Collect(slices.Values(row)) at strings, as data: a new row of its own. The keys of both tables as the reference has them: Compact(Sorted(Values(Concat(..)))).
-/
import Derived.Test.YtocehfhhmljejaaGreatDoorN18
import Derived.Sort.Grow
import Derived.Test.YtocehfhhmljejaaGreatDoorIs0
import Derived.Test.YtocehfhhmljejaaGreatDoorN19
import Derived.Test.YtocehfhhmljejaaGreatDoorQ8
import Derived.Sort.OwnSorted
import Derived.Test.YtocehfhhmljejaaGreatDoorDf2
import Derived.Lib.RowBridge
namespace Go.Proofs.YtocehfhhmljejaaGreatDoor
open Go.RowKit
set_option linter.unusedVariables false
set_option linter.unusedSimpArgs false
section
variable {κ : Type} {X : Cx κ} {α : Type} [Inhabited α]
theorem holds_row {enc : α → Value} {w : World} {β : Bt} {b e c : Nat} {arr : Array Value} {l : List α} {dflt : α} (hA : w.heap[b]? = some (.cells arr e (0, 0))) (hsz : arr.size = c * 1) (hn : l.length ≤ c)
    (hc : ∀ i, i < l.length → arr.getD i undef = enc (l.getD i dflt)) : Go.Sort.Holds enc w b 0 l.toArray := by
  intro j hj
  have hj : j < l.length := by simpa using hj
  rw [Nat.zero_add]
  refine ⟨?_, ?_⟩
  · rw [cell_of_row _ _ _ _ _ _ hA]
    have h1 : j < arr.size := by omega
    have h2 := hc j hj
    simp [Array.getD, h1] at h2
    rw [Array.getElem?_eq_getElem h1, h2]
    simp [List.getD, hj]
  · simp [World.frozen?, hA]
theorem SpH.of_row {f : FuncId} {e : Nat} {enc : α → Value} (he1 : (X.T e).size = 1) {l r : List α} (hr : r.length = l.length) (dflt : α) (hmem : ∀ x ∈ r, x ∈ l ∨ okB (enc x) = true) (hE : Ent X.P f) (d : D κ) (val : Nat → Nat → Value) (valN : Value)
    (hd : ∀ M w β b c, β 2000 = some (some (b, c)) → l.length ≤ c → c ≤ maxLen → Rep X.V M w β d (val b c)) (hdN : l.length = 0 → ∀ M w β, β 2000 = some none → Rep X.V M w β d valN)
    (hn : l.length = 0 → ∀ w, Calls X.P f #[.slice none 0 0] w fun e w' => e = .returned valN ∧ w' = w)
    (hc : ∀ b c w, Go.Sort.Holds enc w b 0 l.toArray → b < w.heap.size → l.length ≤ c → Calls X.P f #[.slice (some ⟨b, 0, none⟩) l.length c] w fun e w' => e = .returned (val b c) ∧ ∃ n os, w' = Go.Sort.grow (Go.Sort.putRow enc (Go.Sort.ahead w n) b 0 r.toArray) os) :
    SpH X f [.own 2000 1 0 l.length] [(2000, .row e l.length (fun i _ => .v (enc (l.getD i dflt))))] d [(2000, .row e l.length (fun i _ => .v (enc (r.getD i dflt))))] := by
  refine ⟨hE, fun M β w vs hG hMG hM hl hrr hH hb => ?_⟩
  have hv := hrr 0 _ rfl
  have evs : vs = #[vs.getD 0 undef] := by
    apply Array.ext
    · simpa using hl
    · intro i h1 h2
      obtain rfl : i = 0 := by simp at h2; exact h2
      simp [Array.getD, h1]
  have hone : ∀ b, blocks β [(2000, (.row e l.length (fun i _ => .v (enc (l.getD i dflt))) : Ob κ))] b ↔ ∃ c, β 2000 = some (some (b, c)) := fun b => by
    constructor
    · rintro ⟨k, o, c, hm, hβ⟩
      obtain ⟨rfl, _⟩ := Prod.mk.inj (List.mem_singleton.1 hm)
      exact ⟨c, hβ⟩
    · rintro ⟨c, hβ⟩
      exact ⟨2000, _, c, List.mem_singleton.2 rfl, hβ⟩
  have hone' : ∀ b, blocks β [(2000, (.row e l.length (fun i _ => .v (enc (r.getD i dflt))) : Ob κ))] b → ∃ c, β 2000 = some (some (b, c)) := fun b => by
    rintro ⟨k, o, c, hm, hβ⟩
    obtain ⟨rfl, _⟩ := Prod.mk.inj (List.mem_singleton.1 hm)
    exact ⟨c, hβ⟩
  obtain ⟨hk, ho⟩ := (hH.ob 2000 _ (List.mem_singleton.2 rfl)).2
  rw [evs]
  rcases ho with ⟨hβ, h0⟩ | ⟨b, c, arr, hβ, hA, hsz, hnc, hcm, hby, hcell, hvis⟩
  · have e0 : vs.getD 0 undef = .slice none 0 0 := by
      generalize vs.getD 0 undef = x at hv
      rw [h0] at hv
      cases hv with
      | own h _ _ => rw [hβ] at h; cases h
      | ownE ho _ _ => exact absurd ho (Nat.lt_irrefl _)
      | ownNil _ => rfl
    rw [e0]
    refine (hn h0 w).mono fun e' w' ⟨he, hw⟩ => ?_
    subst hw
    refine ⟨valN, M, β, he, Kp.refl _ _ _, fun _ _ _ => rfl, fun _ _ h => h, fun _ _ h => .inl h, hdN h0 M w' β hβ, ⟨fun k o hm => ?_, fun k o k' o' b c c' hm hm' h1 h2 => ?_⟩, fun b hb' => ?_⟩
    · obtain ⟨rfl, rfl⟩ := Prod.mk.inj (List.mem_singleton.1 hm)
      exact ⟨rfl, hk, .inl ⟨hβ, h0⟩⟩
    · obtain ⟨rfl, _⟩ := Prod.mk.inj (List.mem_singleton.1 hm)
      obtain ⟨rfl, _⟩ := Prod.mk.inj (List.mem_singleton.1 hm')
      rfl
    · obtain ⟨c, h⟩ := hone' b hb'
      exact .inl ((hone b).2 ⟨c, h⟩)
  · rw [he1] at hsz hcell hvis
    have e0 : vs.getD 0 undef = .slice (some ⟨b, 0, none⟩) l.length c := by
      generalize vs.getD 0 undef = x at hv
      generalize l.length = n at hv
      cases hv with
      | own h _ _ =>
        rw [hβ] at h
        injection h with h
        injection h with h
        injection h with h1 h2
        subst h1 h2
        simp
      | ownE ho _ _ => exact absurd ho (Nat.lt_irrefl _)
      | ownNil h => rw [hβ] at h; cases h
    rw [e0]
    have hval : ∀ i, i < l.length → arr.getD i undef = enc (l.getD i dflt) ∧ okB (enc (l.getD i dflt)) = true := fun i hi => by
      have h1 := (hcell i 0 hi (Nat.lt_succ_self 0)).2.val
      rw [Nat.mul_one, Nat.add_zero] at h1
      exact h1
    have hbw : b < w.heap.size := by
      rcases Nat.lt_or_ge b w.heap.size with h | h
      · exact h
      · rw [Array.getElem?_eq_none h] at hA; cases hA
    refine (hc b c w (holds_row (β := β) hA hsz hnc fun i hi => (hval i hi).1) hbw hnc).mono fun e' w' ⟨he, n, os, hw⟩ => ?_
    have hheap : ∀ k, k < w.heap.size → w'.heap[k]? = (w.heap.modify b (Go.Sort.onCells (Go.Sort.putCells enc 0 r.toArray)))[k]? := fun k hk => by
      subst hw
      rw [Go.Sort.heap_grow_old _ _ (by rw [Go.Sort.size_putRow]; exact hk)]
      rfl
    have hsize : w'.heap.size = w.heap.size + os.size := by subst hw; rw [Go.Sort.size_grow, Go.Sort.size_putRow]; rfl
    have hok : ∀ x ∈ r, okB (enc x) = true := fun x hx => (hmem x hx).elim (fun hx => by
      obtain ⟨i, hi, rfl⟩ := List.getElem_of_mem hx
      have := (hval i hi).2
      simpa [List.getD, hi] using this) id
    refine ⟨val b c, M, β, he, ⟨by subst hw; rfl, by subst hw; rfl, by subst hw; rfl, by omega, fun k hk hs => ?_⟩, fun _ _ _ => rfl, fun _ _ h => h, fun _ _ h => .inl h, hd M w' β b c hβ hnc hcm, ⟨fun k o hm => ?_, fun k o k' o' b c c' hm hm' h1 h2 => ?_⟩, fun b hb' => ?_⟩
    · rw [hheap k hk, Array.getElem?_modify, if_neg]
      intro e
      exact hs ((hone k).2 ⟨c, e ▸ hβ⟩)
    · obtain ⟨rfl, rfl⟩ := Prod.mk.inj (List.mem_singleton.1 hm)
      refine ⟨rfl, hk, .inr ⟨b, c, Go.Sort.putCells enc 0 r.toArray arr, hβ, ?_, ?_, hnc, hcm, hby, fun i j hi hj => ?_, ?_⟩⟩
      · rw [hheap b hbw, Array.getElem?_modify, if_pos rfl, hA]
        rfl
      · rw [he1]; simp [Go.Sort.putCells, hsz]
      · rw [he1] at hj
        obtain rfl : j = 0 := by omega
        have h1 : i < arr.size := by omega
        have h2 : i < r.length := by omega
        have h3 : (Go.Sort.putCells enc 0 r.toArray arr).getD (i * (X.T e).size + 0) undef = enc (r.getD i dflt) := by
          rw [he1, Nat.mul_one, Nat.add_zero]
          simp [Array.getD, Go.Sort.putCells, h1, h2, List.getD]
        rw [h3]
        have h4 : r.getD i dflt ∈ r := by simp [List.getD, h2]
        exact ⟨okB_one (hok _ h4), .v (hok _ h4)⟩
      · rw [he1]; exact hvis
    · obtain ⟨rfl, _⟩ := Prod.mk.inj (List.mem_singleton.1 hm)
      obtain ⟨rfl, _⟩ := Prod.mk.inj (List.mem_singleton.1 hm')
      rfl
    · obtain ⟨c, h⟩ := hone' b hb'
      exact .inl ((hone b).2 ⟨c, h⟩)
end
namespace mpx
theorem mset_mem {κ : Type} {es : List (Value × D κ)} {k : Value} {d : D κ} {p : Value × D κ} (h : p ∈ mset es k d) : p = (k, d) ∨ (p ∈ es ∧ p.1 ≠ k) := by
  unfold mset at h
  split at h
  · obtain ⟨q, hq, e⟩ := List.mem_map.1 h
    split at e
    · exact .inl e.symm
    · rename_i hne
      exact .inr ⟨e ▸ hq, e ▸ hne⟩
  · rename_i hno
    rcases List.mem_append.1 h with h | h
    · exact .inr ⟨h, fun e => hno ⟨p, h, e⟩⟩
    · exact .inl (List.mem_singleton.1 h)
theorem mset_new {κ : Type} (es : List (Value × D κ)) (k : Value) (d : D κ) : (k, d) ∈ mset es k d := by
  unfold mset
  split
  · rename_i h
    obtain ⟨q, hq, e⟩ := h
    exact List.mem_map.2 ⟨q, hq, by rw [if_pos e]⟩
  · exact List.mem_append_right _ (List.mem_singleton.2 rfl)
theorem mset_old {κ : Type} {es : List (Value × D κ)} {k : Value} {d : D κ} {p : Value × D κ} (h : p ∈ es) (hne : p.1 ≠ k) : p ∈ mset es k d := by
  unfold mset
  split
  · exact List.mem_map.2 ⟨p, h, by rw [if_neg hne]⟩
  · exact List.mem_append_left _ h
end mpx
end Go.Proofs.YtocehfhhmljejaaGreatDoor
namespace Go.Proofs.YtocehfhhmljejaaGreatDoor
open Go.RowKit Go.Sort
set_option linter.unusedVariables false
set_option linter.unusedSimpArgs false
namespace its
set_option maxRecDepth 100000 in
set_option maxHeartbeats 1000000 in
theorem collect_c (Bs Bo : Nat) (sv : Value) (zs : List ByteArray) (hlen : zs.length ≤ maxLen) (hbytes : zs.length * 16 ≤ 140737488355328) (w : World) (hBs : Bs < w.heap.size) (hc : w.cell? ⟨Bs, Bo, none⟩ = some sv) (hI : Strs w.heap.size w sv zs) :
    Calls Tryz.prog 76 #[.func (.func 78) #[] #[.pointer (some ⟨Bs, Bo, none⟩)]] w fun e W' => ∃ v, e = .returned v ∧ W'.ownsRow w.heap.size 9 1 v zs.length (zs.map Value.string) ∧ (v = .slice none 0 0 ↔ zs = []) ∧ Below w.heap.size w W' := by
  have cA := (callsIn_wide (n := 6)).1 (appendSeq_in Fence.wide 6 trivial trivial rfl (by omega) Bs Bo sv zs hlen hbytes w hBs hc hI)
  go_enter Tryz.func76, Tryz.ntmps76
  go_wp2_with (go_at_call 94; refine cA.mono ?_; rintro e w' ⟨v, rfl, hrow, hnil, hb⟩)
  go_ret
  exact ⟨v, rfl, hrow, hnil, hb⟩
section
variable (E : Env)
set_option maxRecDepth 100000
abbrev rowN (l : List ByteArray) (i _j : Nat) : DD := dS (l.getD i ⟨#[]⟩)
abbrev valsS (l : List ByteArray) : DD := .fn 78 [.ref 1 (fun j => ([encStrs l] : List DD).getD (0 + j) .opq)]
theorem values_sp (l : List ByteArray) : Sp (cx Tryz.prog mixed tyT_ok E) 42 [encStrs l] (valsS l) := by
  refine Sp.body Tryz.func42 (by kernel_rfl) rfl (by kernel_rfl) (by kernel_rfl) (by kernel_rfl) ?_
  repeat' first
    | (refine codeW_cond rfl ?_; first | (refine condW_dec ?_ ?_ <;> intro _ <;> try (exfalso; omega)) | refine condW_not ?_ | (refine condW_bool ?_ ?_ <;> intro _ <;> try (exfalso; omega)))
    | (refine facW_intro ?_; intro _)
    | refine Or.inl ?_
    | ((conv => whnf); first | (refine condW_dec ?_ ?_ <;> intro _ <;> try (exfalso; omega)) | refine condW_not ?_ | (refine condW_bool ?_ ?_ <;> intro _ <;> try (exfalso; omega)) | (refine nbC_t (fun _ => ?_) ?_) | (refine nbC_f ?_ (fun _ => ?_)))
    | refine And.intro (by first | omega | (simp only [Int.toNat_natCast] at *; omega) | (simp only [Nat.reduceAdd, Int.cast_ofNat_Int, true_and, and_true]; omega)  | kernel_rfl) ?_
    | refine RegW.run ?_
    | fail
  all_goals first
    | exact Dle.refl _ _
    | trace_state
theorem collect_l (L : Nat) (l : List ByteArray) (hl : l.length * 16 ≤ 140737488355328) : SpH (cx Tryz.prog mixed tyT_ok E) 76 [valsS l] [] (.own L 1 0 l.length) [(L, .row 9 l.length (rowN l))] := by
  refine ⟨⟨_, _, Tryz.func76, by kernel_rfl, rfl⟩, fun M β w vs hG hMG hM hln hr hp hb => ?_⟩
  have key : ∃ b o u, vs = #[.func (.func 78) #[] #[.pointer (some ⟨b, o, none⟩)]] ∧ b < w.heap.size ∧ w.cell? ⟨b, o, none⟩ = some u ∧ Rep view M w b0 (encStrs l : DD) u := by
    have h0 := hr 0 _ rfl
    generalize hx : vs.getD 0 undef = x at h0
    cases h0 with
    | fn hn h =>
      rename_i us
      have h1 := h 0 _ rfl
      generalize hy : us.getD 0 undef = y at h1
      cases h1 with
      | ref u hu hrep =>
        rename_i b o
        obtain ⟨g1, g2, _⟩ := hu 0 (Nat.lt_succ_self 0)
        refine ⟨b, o, u 0, ?_, hM _ _ g1, g2, hrep 0 (Nat.lt_succ_self 0)⟩
        have e1 : us = #[.pointer (some ⟨b, o, none⟩)] := by
          apply Array.ext
          · simpa using hn
          · intro i q1 q2
            obtain rfl : i = 0 := by simp at q2; exact q2
            simpa [Array.getD, q1] using hy
        subst e1
        apply Array.ext
        · simpa using hln
        · intro i q1 q2
          obtain rfl : i = 0 := by simp at q2; exact q2
          simpa [Array.getD, q1] using hx
  obtain ⟨b, o, u, rfl, hbw, hcell, hrep⟩ := key
  have hI : Strs w.heap.size w u l ∧ ∀ j, j < l.length → okB (.string (l.getD j ⟨#[]⟩)) = true := by
    unfold encStrs at hrep
    generalize hn : l.length = n at hrep
    cases hrep with
    | nil hc hA => exact ⟨.inl ⟨_, _, rfl, List.eq_nil_of_length_eq_zero hn⟩, fun j hj => absurd hj (by omega)⟩
    | sl q hc hm hby hu hq =>
      rename_i c b' o'
      refine ⟨?_, fun j hj => (hq j 0 (by omega) (Nat.lt_succ_self 0)).val.2⟩
      by_cases h0 : n = 0
      · subst h0
        exact .inl ⟨_, _, rfl, List.eq_nil_of_length_eq_zero hn⟩
      · refine .inr ⟨b', o', c, by rw [hn], hM _ _ (hu 0 0 (by omega) (Nat.lt_succ_self 0)).1, fun j hj => ?_⟩
        have h1 := (hu j 0 (by omega) (Nat.lt_succ_self 0)).2.1
        have h2 := (hq j 0 (by omega) (Nat.lt_succ_self 0)).val.1
        rw [Nat.mul_one, Nat.add_zero] at h1
        rw [h1, h2]
        simp [List.getD]
  obtain ⟨hI, hok⟩ := hI
  have hkn : (((cx Tryz.prog mixed tyT_ok E)).T 9).known = true := by kernel_rfl
  have hs1 : (((cx Tryz.prog mixed tyT_ok E)).T 9).size = 1 := by kernel_rfl
  have hs2 : (((cx Tryz.prog mixed tyT_ok E)).T 9).bytes = 16 := by kernel_rfl
  refine (collect_c b o u l (by show _ ≤ 9223372036854775807; omega) (by omega) w hbw hcell hI).mono fun e w' ⟨v, he, hrow, hnil, hbl⟩ => ?_
  rcases hrow.2 with ⟨rfl, hz⟩ | ⟨g, cap, cur, rfl, hbase, hgb, r1, r2, r3, r4⟩
  · refine ⟨_, M, upd β L none, he, Kp.of hbl _, fun l o hm => (by cases hm), fun _ _ h => h, fun _ _ h => .inl h, by rw [hz]; exact .ownNil (by unfold upd; simp), ⟨fun l' o hm => ?_, fun l' o l'' o' b c c' hm hm' _ _ => ?_⟩, fun b ⟨l', o, c, hm, hb⟩ => ?_⟩
    · obtain ⟨rfl, rfl⟩ := Prod.mk.inj (List.mem_singleton.1 hm)
      exact ⟨rfl, hkn, .inl ⟨by unfold upd; simp, hz⟩⟩
    · rw [(Prod.mk.inj (List.mem_singleton.1 hm)).1, (Prod.mk.inj (List.mem_singleton.1 hm')).1]
    · obtain ⟨rfl, rfl⟩ := Prod.mk.inj (List.mem_singleton.1 hm)
      exact absurd hb (by unfold upd; simp)
  · refine ⟨_, M, upd β L (some (g, cap)), he, Kp.of hbl _, fun l o hm => (by cases hm), fun _ _ h => h, fun _ _ h => .inl h, ?_, ⟨fun l' o hm => ?_, fun l' o l'' o' b c c' hm hm' _ _ => ?_⟩, fun b ⟨l', o, c', hm, hb⟩ => ?_⟩
    · have := Rep.own (V := view) (M := M) (w := w') (β := upd β L (some (g, cap))) (l := L) (s := 1) (o := 0) (n := l.length) (b := g) (c := cap) (by unfold upd; simp) (by omega) r2
      rw [Nat.zero_mul, Nat.sub_zero] at this
      exact this
    · obtain ⟨rfl, rfl⟩ := Prod.mk.inj (List.mem_singleton.1 hm)
      refine ⟨rfl, hkn, .inr ⟨g, cap, cur, by unfold upd; simp, hgb, by rw [hs1]; exact r3, r1, r2, by rw [hs2]; omega, fun i j hi hj => ?_, fun q hq => ?_⟩⟩
      · rw [hs1] at hj ⊢
        obtain rfl : j = 0 := by omega
        have h4 := congrArg (fun L => L[i]?) r4
        simp only [List.getElem?_take, Nat.mul_one, hi, if_true, List.getElem?_map] at h4
        rw [Array.getElem?_toList] at h4
        have hv : cur.getD (i * 1 + 0) undef = .string (l.getD i ⟨#[]⟩) := by
          rw [Nat.mul_one, Nat.add_zero, Array.getD_eq_getD_getElem?, h4]
          simp [List.getD, hi]
        rw [hv]
        exact ⟨rfl, .v (hok i hi)⟩
      · exact absurd (hM _ _ hq) (by omega)
    · rw [(Prod.mk.inj (List.mem_singleton.1 hm)).1, (Prod.mk.inj (List.mem_singleton.1 hm')).1]
    · obtain ⟨rfl, rfl⟩ := Prod.mk.inj (List.mem_singleton.1 hm)
      right
      unfold upd at hb
      simp at hb
      omega
end
end its
end Go.Proofs.YtocehfhhmljejaaGreatDoor
namespace Go.Proofs.YtocehfhhmljejaaGreatDoor
open Go.RowKit Go.Sort
set_option linter.unusedVariables false
set_option linter.unusedSimpArgs false
namespace df
open cr se ap so tab mg its
def compB (l : List ByteArray) : List ByteArray := (Lib.compact (l.map fun s => s.data.toList)).map fun x => ⟨x.toArray⟩
theorem compB_len (l : List ByteArray) : (compB l).length ≤ l.length := by
  have := Lib.compact_length_le (l.map fun s => s.data.toList)
  rw [List.length_map] at this
  unfold compB
  rw [List.length_map]
  exact this
theorem cu_spec (d : Array (List UInt8)) (hs : ∀ i j, i < j → j < d.size → d[i]! ≤ d[j]!) : ∀ m, m ≤ d.size → (Lib.compactUpTo d m).Pairwise (· < ·) ∧ ∀ x, x ∈ Lib.compactUpTo d m ↔ ∃ j, j < m ∧ d[j]! = x
  | 0, _ => ⟨by unfold Lib.compactUpTo; exact List.Pairwise.nil, fun x => ⟨fun h => by unfold Lib.compactUpTo at h; simp at h, fun ⟨j, hj, _⟩ => absurd hj (Nat.not_lt_zero j)⟩⟩
  | m + 1, hm => by
    obtain ⟨h1, h2⟩ := cu_spec d hs m (by omega)
    rw [Lib.compactUpTo_succ]
    by_cases hk : m = 0 ∨ d[m]! ≠ d[m - 1]!
    · have hkp : Lib.keeps d m = true := by unfold Lib.keeps; exact decide_eq_true hk
      rw [hkp, if_pos rfl]
      refine ⟨List.pairwise_append.2 ⟨h1, List.pairwise_singleton _ _, fun x hx y hy => ?_⟩, fun x => ?_⟩
      · rw [List.mem_singleton] at hy
        subst hy
        obtain ⟨j, hj, rfl⟩ := (h2 x).1 hx
        rcases hk with hk | hk
        · omega
        · have l1 : d[m - 1]! ≤ d[m]! := hs (m - 1) m (by omega) (by omega)
          have l2 : d[m - 1]! < d[m]! := (List.le_iff_lt_or_eq.1 l1).resolve_right (fun e => hk e.symm)
          by_cases e : j = m - 1
          · rw [e]; exact l2
          · rcases List.le_iff_lt_or_eq.1 (hs j (m - 1) (by omega) (by omega)) with l3 | l3
            · exact List.lt_trans l3 l2
            · rw [l3]; exact l2
      · rw [List.mem_append, List.mem_singleton, h2]
        constructor
        · rintro (⟨j, hj, e⟩ | rfl)
          · exact ⟨j, by omega, e⟩
          · exact ⟨m, by omega, rfl⟩
        · rintro ⟨j, hj, e⟩
          by_cases ej : j = m
          · subst ej; exact .inr e.symm
          · exact .inl ⟨j, by omega, e⟩
    · have hk1 : ¬ m = 0 := fun h => hk (.inl h)
      have hk2 : d[m]! = d[m - 1]! := Classical.byContradiction fun h => hk (.inr h)
      have hkp : Lib.keeps d m = false := by unfold Lib.keeps; exact decide_eq_false hk
      rw [hkp, if_neg (by decide), List.append_nil]
      refine ⟨h1, fun x => ?_⟩
      rw [h2]
      constructor
      · rintro ⟨j, hj, e⟩
        exact ⟨j, by omega, e⟩
      · rintro ⟨j, hj, e⟩
        by_cases ej : j = m
        · subst ej; exact ⟨j - 1, by omega, by rw [← hk2]; exact e⟩
        · exact ⟨j, by omega, e⟩
theorem keys_ref (l : List ByteArray) : Srt (compB (sortB l)) ∧ ∀ x, x ∈ compB (sortB l) ↔ x ∈ l := by
  have hp := List.pairwise_mergeSort (le := fun x y : List UInt8 => decide (x ≤ y)) (fun a b c h g => decide_eq_true (List.le_trans (of_decide_eq_true h) (of_decide_eq_true g))) (fun a b => by
    rw [Bool.or_eq_true]
    exact (List.le_total a b).imp decide_eq_true decide_eq_true) (l.map fun s => s.data.toList)
  have hq : ∀ x, x ∈ ((l.map fun s => s.data.toList).mergeSort fun x y => decide (x ≤ y)) ↔ x ∈ l.map fun s => s.data.toList := fun x => (List.mergeSort_perm _ _).mem_iff
  have e : (sortB l).map (fun s => s.data.toList) = (l.map fun s => s.data.toList).mergeSort fun x y => decide (x ≤ y) := by
    unfold sortB
    rw [List.map_map]
    have : ((fun s : ByteArray => s.data.toList) ∘ fun x : List UInt8 => (⟨x.toArray⟩ : ByteArray)) = id := by funext x; rfl
    rw [this, List.map_id]
  unfold compB
  rw [e]
  generalize ((l.map fun s => s.data.toList).mergeSort fun x y => decide (x ≤ y)) = m at hp hq
  have hs := cu_spec m.toArray (fun i j hij hj => by
    have hj : j < m.length := by simpa using hj
    have h1 := of_decide_eq_true (List.pairwise_iff_getElem.1 hp i j (by omega) hj hij)
    simpa [hj, show i < m.length by omega] using h1) m.length (by simp)
  have hcm : Lib.compact m = Lib.compactUpTo m.toArray m.length := rfl
  rw [hcm]
  refine ⟨fun i j hij hj => ?_, fun x => ?_⟩
  · generalize Lib.compactUpTo m.toArray m.length = c at hs hj
    rw [List.length_map] at hj
    have hi : i < c.length := by omega
    have e1 : (c.map fun x => (⟨x.toArray⟩ : ByteArray)).getD i ⟨#[]⟩ = ⟨c[i].toArray⟩ := by simp [List.getD, hi]
    have e2 : (c.map fun x => (⟨x.toArray⟩ : ByteArray)).getD j ⟨#[]⟩ = ⟨c[j].toArray⟩ := by simp [List.getD, hj]
    rw [e1, e2, strLt_iff, ByteArray.toList_eq, ByteArray.toList_eq]
    exact List.pairwise_iff_getElem.1 hs.1 i j hi hj hij
  · rw [List.mem_map]
    constructor
    · rintro ⟨y, hy, rfl⟩
      obtain ⟨j, hj, e⟩ := (hs.2 y).1 hy
      have hym : y ∈ m := by
        rw [← e]
        simp [hj]
      obtain ⟨z, hz, rfl⟩ := List.mem_map.1 ((hq y).1 hym)
      exact hz
    · intro hx
      have hxm : x.data.toList ∈ m := (hq _).2 (List.mem_map.2 ⟨x, hx, rfl⟩)
      obtain ⟨j, hj, e⟩ := List.getElem_of_mem hxm
      exact ⟨x.data.toList, (hs.2 _).2 ⟨j, hj, by simpa [hj] using e⟩, rfl⟩
theorem keys_same {a b : Vu} (ha : faultE a = 0) (ka : a.kind = 6) : compB (sortB (a.keys ++ b.keys)) = keysM a b := by
  have h1 := keys_ref (a.keys ++ b.keys)
  have h2 := keysM_spec (b := b) ha ka
  refine srt_ext _ _ h1.1 h2.1 fun x => ?_
  rw [h1.2, h2.2, List.mem_append]
end df
end Go.Proofs.YtocehfhhmljejaaGreatDoor
