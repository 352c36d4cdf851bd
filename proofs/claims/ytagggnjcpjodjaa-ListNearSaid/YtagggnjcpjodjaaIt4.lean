/-
  Neighbours in an order: what sorting tells of an order.
-/
import Derived.Test.YtagggnjcpjodjaaIt3
import Derived.Test.YtagggnjcpjodjaaP
namespace Go.Proofs.Ytagggnjcpjodjaa
open Go.RowKit Go.Sort
set_option linter.unusedVariables false
set_option linter.unusedSimpArgs false
namespace it
theorem ints2_of : ∀ (l : List (List DD × Nat)), (∀ x ∈ l, (∃ k, In64 k ∧ x.1 = [.v (.int .i64 k)] ∧ x.2 = 0) ∧ x.1.length = 1) → ∃ vs : List Int, vs.length = l.length ∧ (∀ i, i < l.length → (l.getD i ([], 0)).1 = [i64 (vs.getD i 0)]) ∧ ∀ k ∈ vs, In64 k
  | [], _ => ⟨[], rfl, fun i hi => by simp at hi, fun k hk => by cases hk⟩
  | x :: l, h => by
    obtain ⟨vs, h2, h3, h4⟩ := ints2_of l (fun y hy => h y (List.mem_cons_of_mem _ hy))
    obtain ⟨⟨k, h6, h7, _⟩, _⟩ := h x List.mem_cons_self
    refine ⟨k :: vs, by simp [h2], fun i hi => ?_, fun q hq => ?_⟩
    · match i, hi with
      | 0, _ => exact h7
      | i + 1, hi => exact h3 i (by simpa using hi)
    · rcases List.mem_cons.1 hq with rfl | hq
      · exact h6
      · exact h4 q hq
section
variable (E : Env)
theorem opn_ints2 (N : Nat) : Opn (cx Try.prog mixed tyT_ok E) N 22 (fun ds n => ∃ d : DD, ds = [d] ∧ ∃ l : List Int, d = encI l ∧ l.length * 8 ≤ 140737488355328 ∧ ∀ k ∈ l, In64 k) := by
  refine Opn.le (Opn.mono (opn_slice (X := (cx Try.prog mixed tyT_ok E)) (N := N) Try.underlying22 (by kernel_rfl) (opn_int (X := (cx Try.prog mixed tyT_ok E)) Try.underlying3)) ?_) (Nat.le_succ _)
  rintro ds n ⟨l, hl, hb, rfl, rfl⟩
  obtain ⟨vs, h2, h3, h4⟩ := ints2_of l hl
  have hb2 : l.length * 8 ≤ 140737488351232 := hb
  refine ⟨_, _, ⟨_, rfl, vs, rfl, by omega, h4⟩, Nat.le_refl _, ⟨?_, trivial⟩⟩
  refine Dle.sl (X := (cx Try.prog mixed tyT_ok E)) (show l.length = vs.length from h2.symm) (fun i j hi hj => Dle.of_eq ?_)
  have hj : j < 1 := hj
  obtain rfl : j = 0 := by omega
  rw [h3 i hi]
  rfl
end
theorem sortI_perm (l : List Int) : (sortI l).Perm l := List.mergeSort_perm _ _
theorem sortI_le (l : List Int) : (sortI l).Pairwise (· ≤ ·) := by
  have h := List.pairwise_mergeSort (le := fun x y : Int => decide (x ≤ y)) (fun a b c h1 h2 => by simp at *; omega) (fun a b => by simp; omega) l
  exact h.imp fun h => of_decide_eq_true h
theorem compact_lt {zs : List Int} (hs : zs.Pairwise (· ≤ ·)) : (Lib.compact zs).length < zs.length ↔ ¬ zs.Nodup := by
  have hle := List.pairwise_iff_getElem.1 hs
  constructor
  · intro h hn
    have hne := List.pairwise_iff_getElem.1 hn
    rw [Lib.compact_all zs] at h
    · exact Nat.lt_irrefl _ h
    · intro j hj
      cases j with
      | zero => exact Lib.keeps_lt_one _ _ (by omega)
      | succ j =>
        refine Lib.keeps_pos ?_
        have := hne j (j + 1) (by omega) hj (by omega)
        simp [getElem!_pos, hj, show j < zs.length by omega]
        exact fun e => this e.symm
  · intro hn
    have hn : ¬ zs.Pairwise (· ≠ ·) := hn
    rw [List.pairwise_iff_getElem] at hn
    simp only [Classical.not_forall] at hn
    obtain ⟨i, j, hi, hj, hij, he⟩ := hn
    have he : zs[i] = zs[j] := Classical.not_not.1 he
    have he2 : zs[j - 1] = zs[j] := by
      have h1 := hle (j - 1) j (by omega) hj (by omega)
      by_cases hq : i = j - 1
      · subst hq; exact he
      · have h2 := hle i (j - 1) hi (by omega) (by omega)
        omega
    unfold Lib.compact Lib.compactUpTo
    rw [List.length_map]
    have h1 : ((List.range zs.length).filter (Lib.keeps zs.toArray)).length < (List.range zs.length).length := by
      refine List.length_filter_lt_length_iff_exists.2 ⟨j, List.mem_range.2 hj, ?_⟩
      rw [Lib.keeps_neg (by omega) (by simp [getElem!_pos, hj, show j - 1 < zs.length by omega]; exact he2.symm)]
      decide
    simpa using h1
theorem twice_iff (l : List Int) : (Lib.compact (sortI l)).length < l.length ↔ ¬ l.Nodup := by
  have h := compact_lt (sortI_le l)
  rw [sortI_len] at h
  rw [h, (sortI_perm l).nodup_iff]
theorem negB_iff (l : List Int) : ∀ k, k ≤ l.length → (negB l k = true ↔ ∃ i, i < k ∧ l.getD i 0 < 0)
  | 0, _ => by simp [negB]
  | k + 1, hk => by
    rw [negB, Bool.or_eq_true, negB_iff l k (by omega), decide_eq_true_iff]
    constructor
    · rintro (⟨i, h1, h2⟩ | h)
      · exact ⟨i, by omega, h2⟩
      · exact ⟨k, by omega, h⟩
    · rintro ⟨i, h1, h2⟩
      by_cases e : i = k
      · subst e; exact .inr h2
      · exact .inl ⟨i, by omega, h2⟩
theorem low_iff {l : List Int} (h0 : 0 < l.length) : (sortI l).getD 0 0 < 0 ↔ negB l l.length = true := by
  rw [negB_iff l _ (Nat.le_refl _)]
  have hle := List.pairwise_iff_getElem.1 (sortI_le l)
  have hln := sortI_len l
  have hp := sortI_perm l
  have e0 : (sortI l).getD 0 0 = (sortI l)[0]'(by omega) := by simp [List.getD, show 0 < (sortI l).length by omega]
  constructor
  · intro h
    have hm : (sortI l).getD 0 0 ∈ l := hp.mem_iff.1 (by rw [e0]; exact List.getElem_mem _)
    obtain ⟨i, hi, he⟩ := List.mem_iff_getElem.1 hm
    refine ⟨i, hi, ?_⟩
    simp [List.getD, hi]
    rw [he]
    exact h
  · rintro ⟨i, hi, h⟩
    have hm : l.getD i 0 ∈ sortI l := hp.mem_iff.2 (by simp [List.getD, hi])
    obtain ⟨j, hj, he⟩ := List.mem_iff_getElem.1 hm
    rw [e0]
    by_cases e : j = 0
    · subst e; omega
    · have := hle 0 j (by omega) hj (by omega)
      omega
theorem plc_is (l : List Int) (x : Int) : ∀ k, k ≤ l.length → (plc l x k = -1 ∧ ∀ i, i < k → l.getD i 0 ≠ x) ∨ ∃ p : Nat, plc l x k = p ∧ p < k ∧ l.getD p 0 = x
  | 0, _ => .inl ⟨rfl, fun i hi => by omega⟩
  | k + 1, hk => by
    rw [plc]
    split
    · exact .inr ⟨k, rfl, by omega, by assumption⟩
    · rename_i hne
      rcases plc_is l x k (by omega) with ⟨h1, h2⟩ | ⟨p, h1, h2, h3⟩
      · refine .inl ⟨h1, fun i hi => ?_⟩
        by_cases e : i = k
        · subst e; exact hne
        · exact h2 i (by omega)
      · exact .inr ⟨p, h1, by omega, h3⟩
theorem fstI_is (l : List Int) (x : Int) : ∀ k, k ≤ l.length → (fstI l x k = -1 ∧ ∀ i, k ≤ i → i < l.length → l.getD i 0 ≠ x) ∨ ∃ p : Nat, fstI l x k = p ∧ k ≤ p ∧ p < l.length ∧ l.getD p 0 = x := by
  intro k hk
  induction hm : l.length - k generalizing k with
  | zero => exact .inl ⟨fstI_end (by omega), fun i h1 h2 => by omega⟩
  | succ m ih =>
    have hlt : k < l.length := by omega
    by_cases hx : l.getD k 0 = x
    · exact .inr ⟨k, fstI_at hlt hx, Nat.le_refl _, hlt, hx⟩
    · rw [fstI_go hlt hx]
      rcases ih (k + 1) (by omega) (by omega) with ⟨h1, h2⟩ | ⟨p, h1, h2, h3, h4⟩
      · refine .inl ⟨h1, fun i h3 h4 => ?_⟩
        by_cases e : i = k
        · subst e; exact hx
        · exact h2 i (by omega) h4
      · exact .inr ⟨p, h1, by omega, h3, h4⟩
theorem fst_plc {l : List Int} {x : Int} (hn : l.Nodup) : fstI l x 0 = plc l x l.length := by
  have hne := List.pairwise_iff_getElem.1 hn
  rcases fstI_is l x 0 (Nat.zero_le _) with ⟨h1, h2⟩ | ⟨p, h1, h2, h3, h4⟩ <;> rcases plc_is l x l.length (Nat.le_refl _) with ⟨g1, g2⟩ | ⟨q, g1, g2, g3⟩
  · rw [h1, g1]
  · exact absurd g3 (h2 q (by omega) g2)
  · exact absurd h4 (g2 p h3)
  · rw [h1, g1]
    have e1 : l[p] = x := by simpa [List.getD, h3] using h4
    have e2 : l[q] = x := by simpa [List.getD, g2] using g3
    rcases Nat.lt_trichotomy p q with h | h | h
    · exact absurd (e1.trans e2.symm) (hne p q h3 g2 h)
    · rw [h]
    · exact absurd (e2.trans e1.symm) (hne q p g2 h3 h)
end it
end Go.Proofs.Ytagggnjcpjodjaa
