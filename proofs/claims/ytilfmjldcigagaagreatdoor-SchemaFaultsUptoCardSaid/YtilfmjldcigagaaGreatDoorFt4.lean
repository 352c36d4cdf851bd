/-
  Faults of a value by a schema: what a field reaches, in plain words; a step's name.
-/
import Derived.Test.YtilfmjldcigagaaGreatDoorFt1
namespace Go.Proofs.YtilfmjldcigagaaGreatDoor
open Go.RowKit
set_option linter.unusedVariables false
set_option linter.unusedSimpArgs false
namespace ft
theorem digs_all {s : ByteArray} (h : digs s = true) : s.data.toList.all digB = true := by
  unfold digs at h
  rw [List.all_eq_true]
  intro c hc
  obtain ⟨k, hk, he⟩ := byte_at hc
  have := digitB_iff.1 (allN_iff.1 h k hk)
  rw [he] at this
  simp [digB, this.1, this.2]
theorem byte_back {c : UInt8} (h : 48 ≤ c.toNat) : UInt8.ofNat (48 + (c.toNat - 48)) = c := by
  rw [show 48 + (c.toNat - 48) = c.toNat by omega]
  exact UInt8.ofNat_toNat
theorem dec_go : ∀ (l : List UInt8) (acc : Nat), l.all digB = true → l.length ≤ 4 → acc < 10 ^ (10 - l.length) → 0 < acc → ∃ u, Lib.parseUint10 acc l = .ok u ∧ Lib.decDigits u = Lib.decDigits acc ++ l
  | [], acc, _, _, _, _ => ⟨acc, rfl, by simp⟩
  | c :: r, acc, h, hl, ha, h0 => by
    simp only [List.all_cons, Bool.and_eq_true, digB, decide_eq_true_eq] at h
    simp only [List.length_cons] at hl ha
    have h1 : 10 ^ (10 - r.length) = 10 * 10 ^ (10 - (r.length + 1)) := by
      rw [show 10 - r.length = (10 - (r.length + 1)) + 1 by omega, Nat.pow_succ, Nat.mul_comm]
    have h2 : 10 ^ (10 - (r.length + 1)) ≤ 10 ^ 9 := Nat.pow_le_pow_right (by omega) (by omega)
    obtain ⟨u, h3, h4⟩ := dec_go r (acc * 10 + (c.toNat - 48)) (h.2) (by omega) (by omega) (by omega)
    refine ⟨u, ?_, ?_⟩
    · rw [Lib.parseUint10, if_pos h.1, if_neg (by omega), if_neg (by omega)]
      exact h3
    · rw [h4]
      have e : Lib.decDigits (acc * 10 + (c.toNat - 48)) = Lib.decDigits acc ++ [c] := by
        rw [Lib.decDigits, dif_neg (by omega), show (acc * 10 + (c.toNat - 48)) / 10 = acc by omega, show (acc * 10 + (c.toNat - 48)) % 10 = c.toNat - 48 by omega, byte_back h.1.1]
      rw [e]
      simp
theorem dec_num {p : ByteArray} (h : indexB p = true) : decS (numN p) = p ∧ numN p ≤ 1000000 := by
  obtain ⟨hd, hs⟩ := idx_digs h
  have hf := ((idx_ref p).1 h).2.2
  have h0 : 0 < p.size := dgB_pos ((idx_ref p).1 h).1
  have ha := digs_all hd
  have hl : p.data.toList.length = p.size := by simp
  have hb : bAt p 0 = p.data.toList.getD 0 0 := rfl
  have hp : p = ⟨p.data.toList.toArray⟩ := by simp
  have key : ∃ u, Lib.parseUint10 0 p.data.toList = .ok u ∧ Lib.decDigits u = p.data.toList ∧ u ≤ 1000000 := by
    rw [hb] at hf
    have h48 : p = ⟨#[48]⟩ → p.data.toList = [48] := fun e => by rw [e]
    generalize p.data.toList = l at ha hl hf h48
    match l, hl with
    | [], hl => simp at hl; omega
    | c :: r, hl =>
      have h := ha
      simp only [List.all_cons, Bool.and_eq_true, digB, decide_eq_true_eq] at h
      simp only [List.length_cons] at hl
      simp only [List.getD_cons_zero] at hf
      by_cases hc : c.toNat = 48
      · have hr := h48 (hf.resolve_left (fun g => g hc))
        injection hr with hr1 hr2
        subst hr1; subst hr2
        exact ⟨0, by decide, by rw [Lib.decDigits, dif_pos (by decide)]; decide, by omega⟩
      · have hdc : (c.toNat - 48) < 10 := by omega
        have he : Lib.decDigits (c.toNat - 48) = [c] := by rw [Lib.decDigits, dif_pos hdc, byte_back h.1.1]
        have hpw : 10 ^ 7 ≤ 10 ^ (10 - r.length) := Nat.pow_le_pow_right (by omega) (by omega)
        obtain ⟨u, h3, h4⟩ := dec_go r (c.toNat - 48) h.2 (by omega) (by omega) (by omega)
        refine ⟨u, ?_, ?_, ?_⟩
        · rw [Lib.parseUint10, if_pos h.1, if_neg (by omega), if_neg (by omega)]
          rw [show 0 * 10 + (c.toNat - 48) = c.toNat - 48 by omega]
          exact h3
        · rw [h4, he]; rfl
        · have h5 : Lib.nDigits u ≤ 4 := by
            rw [← Lib.decDigits_length, h4, he]
            simp only [List.length_append, List.length_singleton]
            omega
          have h6 := Lib.lt_pow_nDigits u
          have h7 : 10 ^ Lib.nDigits u ≤ 10 ^ 4 := Nat.pow_le_pow_right (by omega) h5
          omega
  obtain ⟨u, h1, h2, h3⟩ := key
  have hn : numN p = u := by unfold numN; rw [h1]
  rw [hn]
  refine ⟨?_, h3⟩
  unfold decS
  rw [Lib.itoa_nonneg, h2]
/-- What a field reaches: where, the value, whether it is missing. -/
abbrev Rch := ByteArray × Vu × Bool
instance : Inhabited Rch := ⟨(⟨#[]⟩, .zero, false)⟩
def rch : List ByteArray → Vu → ByteArray → List Rch
  | [], v, r => [(r, v, false)]
  | p :: ps, v, r => if p = (⟨#[42]⟩ : ByteArray) then (List.range v.items.length).flatMap (fun i => rch ps (v.items.getD i .zero) (joinR r (partK v.kind v.keys i))) else
    match followS v (stepOf p) with
    | some x => rch ps x (joinR r p)
    | none => [(joinR r p, .zero, true)]
def rchP (ps : List ByteArray) (v : Vu) (r : ByteArray) (k : Nat) : List Rch := (List.range k).flatMap (fun i => rch ps (v.items.getD i .zero) (joinR r (partK v.kind v.keys i)))
theorem rchP_zero (ps : List ByteArray) (v : Vu) (r : ByteArray) : rchP ps v r 0 = [] := rfl
theorem rchP_succ (ps : List ByteArray) (v : Vu) (r : ByteArray) (k : Nat) : rchP ps v r (k + 1) = rchP ps v r k ++ rch ps (v.items.getD k .zero) (joinR r (partK v.kind v.keys k)) := by
  unfold rchP
  rw [List.range_succ, List.flatMap_append]
  simp
theorem rch_nil (v : Vu) (r : ByteArray) : rch [] v r = [(r, v, false)] := rfl
theorem rch_star (ps : List ByteArray) (v : Vu) (r : ByteArray) : rch ((⟨#[42]⟩ : ByteArray) :: ps) v r = rchP ps v r v.items.length := by rw [rch, if_pos rfl]; rfl
theorem rch_some {p : ByteArray} {ps : List ByteArray} {v x : Vu} {r : ByteArray} (h : p ≠ (⟨#[42]⟩ : ByteArray)) (h2 : followS v (stepOf p) = some x) : rch (p :: ps) v r = rch ps x (joinR r p) := by rw [rch, if_neg h, h2]
theorem rch_none {p : ByteArray} {ps : List ByteArray} {v : Vu} {r : ByteArray} (h : p ≠ (⟨#[42]⟩ : ByteArray)) (h2 : followS v (stepOf p) = none) : rch (p :: ps) v r = [(joinR r p, .zero, true)] := by rw [rch, if_neg h, h2]
/-- What is wrong there. -/
def rF (f : Fd) (q : Rch) : List Flt := if q.2.2 = true then (if f.need = true then [(q.1, 1)] else []) else valF f q.2.1 q.1
def walkF (f : Fd) (ps : List ByteArray) (v : Vu) (r : ByteArray) : List Flt := (rch ps v r).flatMap (rF f)
def walkP (f : Fd) (ps : List ByteArray) (v : Vu) (r : ByteArray) (k : Nat) : List Flt := (rchP ps v r k).flatMap (rF f)
theorem walkP_zero (f : Fd) (ps : List ByteArray) (v : Vu) (r : ByteArray) : walkP f ps v r 0 = [] := rfl
theorem walkP_succ (f : Fd) (ps : List ByteArray) (v : Vu) (r : ByteArray) (k : Nat) : walkP f ps v r (k + 1) = walkP f ps v r k ++ walkF f ps (v.items.getD k .zero) (joinR r (partK v.kind v.keys k)) := by
  unfold walkP walkF
  rw [rchP_succ, List.flatMap_append]
theorem walk_nil (f : Fd) (v : Vu) (r : ByteArray) : walkF f [] v r = valF f v r := by
  unfold walkF
  rw [rch_nil]
  simp [rF]
theorem walk_star (f : Fd) (ps : List ByteArray) (v : Vu) (r : ByteArray) : walkF f ((⟨#[42]⟩ : ByteArray) :: ps) v r = walkP f ps v r v.items.length := by
  unfold walkF walkP
  rw [rch_star]
theorem walk_some {f : Fd} {p : ByteArray} {ps : List ByteArray} {v x : Vu} {r : ByteArray} (h : p ≠ (⟨#[42]⟩ : ByteArray)) (h2 : followS v (stepOf p) = some x) : walkF f (p :: ps) v r = walkF f ps x (joinR r p) := by
  unfold walkF
  rw [rch_some h h2]
theorem walk_none {f : Fd} {p : ByteArray} {ps : List ByteArray} {v : Vu} {r : ByteArray} (h : p ≠ (⟨#[42]⟩ : ByteArray)) (h2 : followS v (stepOf p) = none) : walkF f (p :: ps) v r = if f.need = true then [(joinR r p, 1)] else [] := by
  unfold walkF
  rw [rch_none h h2]
  simp [rF]
theorem follow_cnt {v x : Vu} {s : Stp} (hs : s.ok) (hf : faultE v = 0) (h : followS v s = some x) : ∃ k, k < v.items.length ∧ x = v.items.getD k .zero := by
  unfold followS at h
  unfold Stp.ok at hs
  split at h
  · split at h
    · rename_i h2
      injection h with h
      exact ⟨_, by omega, h.symm⟩
    · cases h
  · split at h
    · rename_i h2
      injection h with h
      have hk := h2.2
      unfold hasK at hk
      simp only [Bool.and_eq_true, decide_eq_true_eq] at hk
      exact ⟨_, by have := (fault_keys hf).2 h2.1; omega, h.symm⟩
    · cases h
theorem stepOf_ok (p : ByteArray) : (stepOf p).ok := steps_ok [p] _ (by simp)
theorem sum_take (v : Vu) (f : Nat → Nat) : ∀ k, k ≤ v.items.length → (∀ i, i < k → f i ≤ cnt (v.items.getD i .zero)) → ((List.range k).map f).sum ≤ cntL (v.items.take k)
  | 0, _, _ => by simp
  | k + 1, h, g => by
    have ih := sum_take v f k (by omega) (fun i hi => g i (by omega))
    have h1 := g k (by omega)
    rw [List.range_succ, List.map_append, List.sum_append, take_snoc v.items .zero k (by omega), cntL_app]
    simp only [List.map_cons, List.map_nil, List.sum_cons, List.sum_nil, cntL]
    omega
theorem rch_len : ∀ (ps : List ByteArray) (v : Vu) (r : ByteArray), faultE v = 0 → (rch ps v r).length ≤ cnt v
  | [], v, r, _ => by
    have := cnt_eq v
    simp [rch_nil]
    omega
  | p :: ps, v, r, hf => by
    have hc := cnt_eq v
    by_cases h : p = (⟨#[42]⟩ : ByteArray)
    · subst h
      rw [rch_star]
      unfold rchP
      rw [List.length_flatMap]
      have := sum_take v (fun i => (rch ps (v.items.getD i .zero) (joinR r (partK v.kind v.keys i))).length) v.items.length (Nat.le_refl _) (fun i hi => rch_len ps _ _ (fault_mem hf hi))
      rw [List.take_of_length_le (Nat.le_refl _)] at this
      omega
    · cases h2 : followS v (stepOf p) with
      | none =>
        rw [rch_none h h2]
        simp
        omega
      | some x =>
        rw [rch_some h h2]
        obtain ⟨k, hk, rfl⟩ := follow_cnt (stepOf_ok p) hf h2
        have h3 := rch_len ps _ (joinR r p) (fault_mem hf hk)
        have h4 := cnt_mem v.items _ (getD_mem v.items .zero k hk)
        omega
theorem rchP_len (ps : List ByteArray) (v : Vu) (r : ByteArray) (k : Nat) (hk : k ≤ v.items.length) (hf : faultE v = 0) : (rchP ps v r k).length ≤ cnt v := by
  have := rch_len ((⟨#[42]⟩ : ByteArray) :: ps) v r hf
  rw [rch_star] at this
  refine Nat.le_trans ?_ this
  obtain ⟨m, hm⟩ := Nat.exists_eq_add_of_le hk
  rw [hm]
  clear hm this hk
  induction m with
  | zero => exact Nat.le_refl _
  | succ m ih =>
    rw [← Nat.add_assoc, rchP_succ, List.length_append]
    omega
theorem valF_len (f : Fd) (v : Vu) (r : ByteArray) : (valF f v r).length ≤ 2 := by
  have h1 : (boundF f v r).length ≤ 1 := by
    unfold boundF boundO
    split
    · split
      · split
        · simp
        · split <;> simp
      · simp
    · simp
  have h2 : (otherF f v r).length ≤ 1 := by
    unfold otherF
    split
    · simp
    · split <;> simp
  unfold valF
  split
  · simp
  · rw [List.length_append]; omega
theorem rF_len (f : Fd) (q : Rch) : (rF f q).length ≤ 2 := by
  unfold rF
  split
  · split <;> simp
  · exact valF_len _ _ _
theorem flat_len {α β : Type} (g : α → List β) (n : Nat) : ∀ l : List α, (∀ x ∈ l, (g x).length ≤ n) → (l.flatMap g).length ≤ n * l.length
  | [], _ => by simp
  | a :: l, h => by
    have ih := flat_len g n l (fun x hx => h x (List.mem_cons_of_mem _ hx))
    have h1 := h a List.mem_cons_self
    rw [List.flatMap_cons, List.length_append, List.length_cons, Nat.mul_add]
    omega
theorem walkF_len (f : Fd) (ps : List ByteArray) (v : Vu) (r : ByteArray) (hf : faultE v = 0) : (walkF f ps v r).length ≤ 2 * cnt v := by
  have h1 := flat_len (rF f) 2 (rch ps v r) (fun x _ => rF_len f x)
  have h2 := rch_len ps v r hf
  unfold walkF
  omega
theorem walkP_len (f : Fd) (ps : List ByteArray) (v : Vu) (r : ByteArray) (k : Nat) (hk : k ≤ v.items.length) (hf : faultE v = 0) : (walkP f ps v r k).length ≤ 2 * cnt v := by
  have h1 := flat_len (rF f) 2 (rchP ps v r k) (fun x _ => rF_len f x)
  have h2 := rchP_len ps v r k hk hf
  unfold walkP
  omega
/-- Parts of a field's route: a key, a number, or a star. -/
theorem part_star {p : ByteArray} (h : partOk true p = true) : ((stepOf p).star = true ∧ p = (⟨#[42]⟩ : ByteArray)) ∨ ((stepOf p).star = false ∧ p ≠ (⟨#[42]⟩ : ByteArray) ∧ partOk false p = true) := by
  by_cases hk : keyOkB p = true
  · refine .inr ⟨by unfold stepOf; rw [if_pos hk], fun e => ?_, key_part hk⟩
    subst e
    unfold keyOkB at hk
    revert hk
    decide
  · by_cases hs : p = (⟨#[42]⟩ : ByteArray)
    · exact .inl ⟨by unfold stepOf; rw [if_neg hk, if_pos hs], hs⟩
    · refine .inr ⟨by unfold stepOf; rw [if_neg hk, if_neg hs], hs, ?_⟩
      have hk : keyOkB p = false := by simpa using hk
      unfold partOk at h ⊢
      rw [hk, decide_eq_false hs] at h
      rw [hk]
      simpa using h
theorem part_size {p : ByteArray} (h : partOk true p = true) : 0 < p.size ∧ p.size ≤ 40 := by
  unfold partOk at h
  simp only [Bool.or_eq_true, Bool.and_eq_true, decide_eq_true_eq] at h
  rcases h with (h | ⟨_, h⟩) | h
  · unfold keyOkB at h
    simp only [Bool.and_eq_true, decide_eq_true_eq] at h
    exact ⟨h.1.1.1, h.1.1.2⟩
  · subst h
    decide
  · have := idx_digs h
    have := dgB_pos ((idx_ref p).1 h).1
    omega
end ft
end Go.Proofs.YtilfmjldcigagaaGreatDoor
