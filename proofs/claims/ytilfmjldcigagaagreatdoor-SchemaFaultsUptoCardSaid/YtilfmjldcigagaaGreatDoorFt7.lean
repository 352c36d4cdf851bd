/-
  Faults of a value by a schema: what Faults answers, in plain words.
-/
import Derived.Test.YtilfmjldcigagaaGreatDoorFt4
namespace Go.Proofs.YtilfmjldcigagaaGreatDoor
open Go.RowKit
set_option linter.unusedVariables false
set_option linter.unusedSimpArgs false
namespace ft
abbrev dot : ByteArray := ⟨#[46]⟩
theorem schemaF_ok (l : List Fd) : ∀ (n k : Nat), l.length - k < n → schemaF l k = 0 → ∀ i, k ≤ i → i < l.length → fieldE (l.getD i default) (dupB l (l.getD i default).route i) = 0
  | 0, k, h, _, i, _, _ => by omega
  | n + 1, k, h, h0, i, hi, hil => by
    have hk : k < l.length := by omega
    rw [schemaF_at hk] at h0
    split at h0
    · rename_i h1
      rcases Nat.lt_or_ge k i with h3 | h3
      · exact schemaF_ok l n (k + 1) (by omega) h0 i (by omega) hil
      · obtain rfl : i = k := by omega
        exact h1
    · rename_i h1
      exact absurd h0 h1
theorem fieldA_ok {f : Fd} {ok dup : Bool} (h : fieldA f ok dup = 0) : ok = true ∧ f.route ≠ ⟨#[]⟩ := by
  unfold fieldA at h
  split at h
  · cases h
  · rename_i h1
    refine ⟨?_, fun g => h1 (.inr g)⟩
    cases ok
    · exact absurd (Or.inl rfl) h1
    · rfl
theorem fieldE_ok {f : Fd} {dup : Bool} (h : fieldE f dup = 0) : routeOk true f.route = true ∧ f.route ≠ ⟨#[]⟩ := by
  unfold fieldE at h
  split at h
  · rename_i h1
    exact absurd h h1
  · rename_i h1
    exact fieldA_ok (Classical.byContradiction fun g => h1 g)
/-- What is known of the fields of a right schema. -/
theorem schema_ok {l : List Fd} (h : schemaE l = 0) : l.length ≤ 100 ∧ ∀ f ∈ l, routeOk true f.route = true ∧ partsR f.route = pcs f.route dot ∧ f.route.size ≤ 400 ∧ ∀ p ∈ pcs f.route dot, partOk true p = true := by
  unfold schemaE at h
  split at h
  · cases h
  · rename_i h1
    refine ⟨by omega, fun f hf => ?_⟩
    obtain ⟨i, hi, rfl⟩ := List.getElem_of_mem hf
    have h2 := schemaF_ok l (l.length + 1) 0 (by omega) h i (Nat.zero_le _) hi
    have e : l.getD i default = l[i] := by simp [List.getD, hi]
    rw [e] at h2
    obtain ⟨h3, h4⟩ := fieldE_ok h2
    have h5 : ¬ (400 : Int) < l[i].route.size := fun g => by rw [routeOk_long g] at h3; cases h3
    obtain ⟨h6, h7⟩ := routeOk_all (stars := true) h5 h4
    refine ⟨h3, h7, by omega, fun p hp => ?_⟩
    rw [h3] at h6
    exact List.all_eq_true.1 h6.symm p hp
def knownB (l : List Fd) (r : ByteArray) : Bool := l.any (fun f => matR f.route r)
def knownP (l : List Fd) (r : ByteArray) (k : Nat) : Bool := (l.take k).any (fun f => matR f.route r)
theorem knownP_zero (l : List Fd) (r : ByteArray) : knownP l r 0 = false := rfl
theorem knownP_succ {l : List Fd} {r : ByteArray} {k : Nat} (h : k < l.length) : knownP l r (k + 1) = (knownP l r k || matR (l.getD k default).route r) := by
  unfold knownP
  rw [take_snoc l default k h, List.any_append, List.any_cons, List.any_nil, Bool.or_false]
theorem knownP_all (l : List Fd) (r : ByteArray) {k : Nat} (h : l.length ≤ k) : knownP l r k = knownB l r := by unfold knownP; rw [List.take_of_length_le h]; rfl
/-- Faults by the first k fields. -/
def outP (l : List Fd) (v : Vu) (k : Nat) : List Flt := (l.take k).flatMap (fun f => walkF f (pcs f.route dot) v ⟨#[]⟩)
theorem outP_zero (l : List Fd) (v : Vu) : outP l v 0 = [] := rfl
theorem outP_succ {l : List Fd} {v : Vu} {k : Nat} (h : k < l.length) : outP l v (k + 1) = outP l v k ++ walkF (l.getD k default) (pcs (l.getD k default).route dot) v ⟨#[]⟩ := by
  unfold outP
  rw [take_snoc l default k h, List.flatMap_append]
  simp
/-- Unknown ones of the first k routes. -/
def unk (l : List Fd) (r : ByteArray) : List Flt := if knownB l r = true then [] else [(r, 6)]
def unkP (l : List Fd) (rs : List ByteArray) (k : Nat) : List Flt := (rs.take k).flatMap (unk l)
theorem unkP_zero (l : List Fd) (rs : List ByteArray) : unkP l rs 0 = [] := rfl
theorem unkP_succ {l : List Fd} {rs : List ByteArray} {k : Nat} (h : k < rs.length) : unkP l rs (k + 1) = unkP l rs k ++ unk l (rs.getD k ⟨#[]⟩) := by
  unfold unkP
  rw [take_snoc rs ⟨#[]⟩ k h, List.flatMap_append]
  simp
theorem unk_len (l : List Fd) (r : ByteArray) : (unk l r).length ≤ 1 := by unfold unk; split <;> simp
theorem unkP_len (l : List Fd) (rs : List ByteArray) (k : Nat) : (unkP l rs k).length ≤ rs.length := by
  have := flat_len (unk l) 1 (rs.take k) (fun x _ => unk_len l x)
  have h2 : (rs.take k).length ≤ rs.length := by rw [List.length_take]; omega
  unfold unkP
  omega
theorem outP_len (l : List Fd) (v : Vu) (k : Nat) (hf : faultE v = 0) : (outP l v k).length ≤ 2 * cnt v * l.length := by
  have := flat_len (fun f : Fd => walkF f (pcs f.route dot) v ⟨#[]⟩) (2 * cnt v) (l.take k) (fun x _ => walkF_len x _ v _ hf)
  have h2 : (l.take k).length ≤ l.length := by rw [List.length_take]; omega
  have h3 := Nat.mul_le_mul_left (2 * cnt v) h2
  unfold outP
  omega
theorem outP_max {l : List Fd} {v : Vu} {k : Nat} (hf : faultE v = 0) (hc : cnt v ≤ 1000) (hl : l.length ≤ 100) : (outP l v k).length ≤ 200000 := by
  have h1 := outP_len l v k hf
  have h2 : 2 * cnt v * l.length ≤ 2000 * 100 := Nat.mul_le_mul (by omega) hl
  omega
def allF (l : List Fd) (b : Bool) (v : Vu) : List Flt := outP l v l.length ++ (if b = true then unkP l (rts v ⟨#[]⟩) (rts v ⟨#[]⟩).length else [])
def faultsE (l : List Fd) (b : Bool) (v : Vu) : List Flt × Int := if schemaE l ≠ 0 then ([], schemaE l) else if checkE v ≠ 0 then ([], checkE v) else (allF l b v, 0)
theorem rts_size : ∀ (N : Nat) (v : Vu) (r s : ByteArray), SizeOf.sizeOf v < N → faultE v = 0 → v.items.length ≤ 1000000 → cnt v ≤ 1000000 → s ∈ rts v r → s.size ≤ r.size + 100 * v.wt
  | 0, v, r, s, h, _, _, _, _ => by omega
  | N + 1, v, r, s, h, hf, hil, hc, hs => by
    by_cases h0 : v.items.length = 0
    · rw [rts_eq, if_pos h0] at hs
      simp at hs
      subst hs
      omega
    · rw [← rtsP_all v r h0] at hs
      have key : ∀ k, k ≤ v.items.length → s ∈ rtsP v r k → s.size ≤ r.size + 100 * v.wt := by
        intro k
        induction k with
        | zero => intro _ g; cases g
        | succ k ih =>
          intro hk g
          rw [rtsP] at g
          rcases List.mem_append.1 g with g | g
          · exact ih (by omega) g
          · have hm := getD_mem v.items .zero k (by omega)
            have g1 := wt_child hm
            have g2 := cnt_mem v.items _ hm
            have g3 := len_le_cntL (v.items.getD k .zero).items
            have g4 := cnt_eq (v.items.getD k .zero)
            have g5 := cnt_eq v
            have g6 := part_wt (v := v) (i := k) (by omega)
            have g7 := joinR_size r (partK v.kind v.keys k)
            have := rts_size N (v.items.getD k .zero) _ s (by have := items_lt v _ hm; omega) (fault_mem hf (by omega)) (by omega) (by omega) g
            omega
      exact key _ (Nat.le_refl _) hs
end ft
end Go.Proofs.YtilfmjldcigagaaGreatDoor
