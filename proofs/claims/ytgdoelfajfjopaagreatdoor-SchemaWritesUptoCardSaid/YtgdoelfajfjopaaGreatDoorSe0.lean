/-
  conf.put: a table with an item of a key more, or another one.
-/
import Derived.Test.YtgdoelfajfjopaaGreatDoorCr0
namespace Go.Proofs.YtgdoelfajfjopaaGreatDoor
open Go.RowKit
set_option linter.unusedVariables false
set_option linter.unusedSimpArgs false
namespace se
open cr
/-- A table with an item put. -/
def putK (v : Vu) (key : ByteArray) (y : Vu) : Vu :=
  .mk 6 false 0 ⟨#[]⟩ (v.items.take (findK v key) ++ y :: v.items.drop (findK v key + cond (hasK v key) 1 0)) (v.keys.take (findK v key) ++ key :: v.keys.drop (findK v key + cond (hasK v key) 1 0))
theorem pl_at {α : Type} (l : List α) (y : α) (m k i : Nat) (d : α) (hm : m ≤ l.length) : (l.take m ++ y :: l.drop k).getD i d = if i < m then l.getD i d else if i = m then y else l.getD (i - (m + 1) + k) d := by
  simp only [List.getD_eq_getElem?_getD]
  by_cases h : i < m
  · rw [List.getElem?_append_left (by rw [List.length_take]; omega), List.getElem?_take_of_lt h, if_pos h]
  · rw [if_neg h, List.getElem?_append_right (by rw [List.length_take]; omega), List.length_take, Nat.min_eq_left hm]
    by_cases h2 : i = m
    · subst h2
      rw [if_pos rfl, Nat.sub_self]
      rfl
    · rw [if_neg h2, show i - m = (i - (m + 1)) + 1 by omega, List.getElem?_cons_succ, List.getElem?_drop, Nat.add_comm k]
theorem pl_len {α : Type} (l : List α) (y : α) (m k : Nat) (hm : m ≤ l.length) : (l.take m ++ y :: l.drop k).length = m + 1 + (l.length - k) := by
  simp only [List.length_append, List.length_take, List.length_cons, List.length_drop]
  omega
section
variable (E : Env)
set_option maxRecDepth 100000
theorem row_put (l : List Vu) (y : Vu) (m k n : Nat) (g : Nat → Nat → DD) (hm : m ≤ l.length) (hn : n = m + 1 + (l.length - k)) (hg : ∀ i j, i < n → j < 6 → g i j = if i < m + 1 then (if i < m then (l.getD i .zero).cell j else y.cell j) else (l.getD (i - (m + 1) + k) .zero).cell j) : Dle (cx Tryz.prog mixed tyT_ok E) (.sl 6 88 n g) (.rc (.vals (l.take m ++ y :: l.drop k))) :=
  Dle.rc (X := (cx Tryz.prog mixed tyT_ok E)) (Dle.sl (X := (cx Tryz.prog mixed tyT_ok E)) (by rw [hn]; exact (pl_len l y m k hm).symm) (fun i j hi hj => Dle.of_eq (by
    rw [hg i j hi hj]
    show _ = ((l.take m ++ y :: l.drop k).getD i .zero).cell j
    rw [pl_at l y m k i .zero hm]
    by_cases h1 : i < m
    · rw [if_pos (by omega), if_pos h1, if_pos h1]
    · by_cases h2 : i = m
      · rw [if_pos (by omega), if_neg h1, if_neg h1, if_pos h2]
      · rw [if_neg (by omega), if_neg h1, if_neg h2])))
theorem keys_put (l : List ByteArray) (y : ByteArray) (m k n : Nat) (g : Nat → Nat → DD) (hm : m ≤ l.length) (hn : n = m + 1 + (l.length - k)) (hg : ∀ i j, i < n → j < 1 → g i j = if i < m + 1 then (if i < m then dS (l.getD i ⟨#[]⟩) else dS y) else dS (l.getD (i - (m + 1) + k) ⟨#[]⟩)) : Dle (cx Tryz.prog mixed tyT_ok E) (.sl 1 16 n g) (encStrs (l.take m ++ y :: l.drop k)) :=
  Dle.sl (X := (cx Tryz.prog mixed tyT_ok E)) (by rw [hn]; exact (pl_len l y m k hm).symm) (fun i j hi hj => Dle.of_eq (by
    rw [hg i j hi hj, pl_at l y m k i ⟨#[]⟩ hm]
    by_cases h1 : i < m
    · rw [if_pos (by omega), if_pos h1, if_pos h1]
    · by_cases h2 : i = m
      · rw [if_pos (by omega), if_neg h1, if_neg h1, if_pos h2]
      · rw [if_neg (by omega), if_neg h1, if_neg h2]))
theorem cell_of (y : Vu) (j : Nat) (hj : j < 6) : ([i64 y.kind, dB y.b, i64 y.i, dS y.text, .rc (.vals y.items), encStrs y.keys] : List DD).getD j .opq = y.cell j := by
  match j, hj with
  | 0, _ => rfl
  | 1, _ => rfl
  | 2, _ => rfl
  | 3, _ => rfl
  | 4, _ => rfl
  | 5, _ => rfl
set_option maxHeartbeats 8000000 in
theorem put_sp (v : Vu) (key : ByteArray) (y : Vu) (hb : v.keys.length ≤ 1000000000000) (hl : v.keys.length = v.items.length) : Sp (cx Tryz.prog mixed tyT_ok E) 33 [encV v, dS key, encV y] (encV (putK v key y)) := by
  have hf := find_sp E v key hb
  have hle := bsr_le v.keys key (v.keys.length + 1) 0 v.keys.length (by omega) (by omega)
  have e : findK v key = bsr v.keys key 0 v.keys.length := rfl
  rw [← e] at hle
  have h2 : hasK v key = true → findK v key < v.keys.length := fun h => by
    unfold hasK at h
    simp only [Bool.and_eq_true, decide_eq_true_eq] at h
    exact h.1
  unfold putK
  generalize findK v key = m at *
  cases hh : hasK v key with
  | true =>
    have h3 := h2 hh
    rw [hh] at hf
    refine Sp.body Tryz.func33 (by kernel_rfl) rfl (by kernel_rfl) (by kernel_rfl) (by kernel_rfl) ?_
    repeat' first
      | (refine codeW_cond rfl ?_; first | (refine condW_dec ?_ ?_ <;> intro _ <;> try (exfalso; omega)) | refine condW_not ?_ | (refine condW_bool ?_ ?_ <;> intro _ <;> try (exfalso; omega)))
      | (refine facW_intro ?_; intro _)
      | refine Or.inl ?_
      | ((conv => whnf); first | (refine condW_dec ?_ ?_ <;> intro _ <;> try (exfalso; omega)) | refine condW_not ?_ | (refine condW_bool ?_ ?_ <;> intro _ <;> try (exfalso; omega)) | (refine nbC_t (fun _ => ?_) ?_) | (refine nbC_f ?_ (fun _ => ?_)))
      | refine And.intro (by first | omega | (simp only [Int.toNat_natCast] at *; omega) | (simp only [Nat.reduceAdd, Int.cast_ofNat_Int, true_and, and_true]; omega)  | (simp only [cx, view, Nat.reduceAdd, Int.toNat_natCast]; omega) | kernel_rfl) ?_
      | refine RegW.run ?_
      | refine ⟨_, hf, ?_⟩
      | fail
    · refine Dle.agg (X := (cx Tryz.prog mixed tyT_ok E)) ⟨Dle.refl _ _, Dle.refl _ _, Dle.refl _ _, Dle.refl _ _, row_put E v.items y m (m + cond true 1 0) _ _ (by omega) (by simp only [cond_true, cond_false]; omega) (fun i j hi hj => ?_), keys_put E v.keys key m (m + cond true 1 0) _ _ (by omega) (by simp only [cond_true, cond_false]; omega) (fun i j hi hj => ?_), trivial⟩
      · show (if i < (m : Int).toNat - Int.toNat 0 + 1 then (if i < (m : Int).toNat - Int.toNat 0 then (v.items.getD (i + Int.toNat 0) .zero).cell j else ([i64 y.kind, dB y.b, i64 y.i, dS y.text, .rc (.vals y.items), encStrs y.keys] : List DD).getD ((i - ((m : Int).toNat - Int.toNat 0)) * 6 + j) .opq) else (v.items.getD (i - ((m : Int).toNat - Int.toNat 0 + 1) + ((m : Int) + 1).toNat) .zero).cell j) = _
        simp only [Int.toNat_natCast, Int.toNat_zero, Nat.sub_zero, Nat.add_zero, cond_true, cond_false]
        by_cases h1 : i < m + 1
        · rw [if_pos h1, if_pos h1]
          by_cases h2 : i < m
          · rw [if_pos h2, if_pos h2]
          · rw [if_neg h2, if_neg h2, show (i - m) * 6 + j = j by rw [show i - m = 0 by omega]; omega, cell_of y j hj]
        · rw [if_neg h1, if_neg h1]
          all_goals first | rfl | (rw [show ((m : Int) + 1).toNat = m + 1 by omega])
      · show (if i < (m : Int).toNat - Int.toNat 0 + 1 then (if i < (m : Int).toNat - Int.toNat 0 then dS (v.keys.getD (i + Int.toNat 0) ⟨#[]⟩) else ([dS key] : List DD).getD ((i - ((m : Int).toNat - Int.toNat 0)) * 1 + j) .opq) else dS (v.keys.getD (i - ((m : Int).toNat - Int.toNat 0 + 1) + ((m : Int) + 1).toNat) ⟨#[]⟩)) = _
        simp only [Int.toNat_natCast, Int.toNat_zero, Nat.sub_zero, Nat.add_zero, cond_true, cond_false]
        by_cases h1 : i < m + 1
        · rw [if_pos h1, if_pos h1]
          by_cases h2 : i < m
          · rw [if_pos h2, if_pos h2]
          · rw [if_neg h2, if_neg h2, show (i - m) * 1 + j = 0 by rw [show i - m = 0 by omega]; omega]
            rfl
        · rw [if_neg h1, if_neg h1]
          all_goals first | rfl | (rw [show ((m : Int) + 1).toNat = m + 1 by omega])
  | false =>
    rw [hh] at hf
    refine Sp.body Tryz.func33 (by kernel_rfl) rfl (by kernel_rfl) (by kernel_rfl) (by kernel_rfl) ?_
    repeat' first
      | (refine codeW_cond rfl ?_; first | (refine condW_dec ?_ ?_ <;> intro _ <;> try (exfalso; omega)) | refine condW_not ?_ | (refine condW_bool ?_ ?_ <;> intro _ <;> try (exfalso; omega)))
      | (refine facW_intro ?_; intro _)
      | refine Or.inl ?_
      | ((conv => whnf); first | (refine condW_dec ?_ ?_ <;> intro _ <;> try (exfalso; omega)) | refine condW_not ?_ | (refine condW_bool ?_ ?_ <;> intro _ <;> try (exfalso; omega)) | (refine nbC_t (fun _ => ?_) ?_) | (refine nbC_f ?_ (fun _ => ?_)))
      | refine And.intro (by first | omega | (simp only [Int.toNat_natCast] at *; omega) | (simp only [Nat.reduceAdd, Int.cast_ofNat_Int, true_and, and_true]; omega)  | (simp only [cx, view, Nat.reduceAdd, Int.toNat_natCast]; omega) | kernel_rfl) ?_
      | refine RegW.run ?_
      | refine ⟨_, hf, ?_⟩
      | fail
    · refine Dle.agg (X := (cx Tryz.prog mixed tyT_ok E)) ⟨Dle.refl _ _, Dle.refl _ _, Dle.refl _ _, Dle.refl _ _, row_put E v.items y m (m + cond false 1 0) _ _ (by omega) (by simp only [cond_true, cond_false]; omega) (fun i j hi hj => ?_), keys_put E v.keys key m (m + cond false 1 0) _ _ (by omega) (by simp only [cond_true, cond_false]; omega) (fun i j hi hj => ?_), trivial⟩
      · show (if i < (m : Int).toNat - Int.toNat 0 + 1 then (if i < (m : Int).toNat - Int.toNat 0 then (v.items.getD (i + Int.toNat 0) .zero).cell j else ([i64 y.kind, dB y.b, i64 y.i, dS y.text, .rc (.vals y.items), encStrs y.keys] : List DD).getD ((i - ((m : Int).toNat - Int.toNat 0)) * 6 + j) .opq) else (v.items.getD (i - ((m : Int).toNat - Int.toNat 0 + 1) + (m : Int).toNat) .zero).cell j) = _
        simp only [Int.toNat_natCast, Int.toNat_zero, Nat.sub_zero, Nat.add_zero, cond_true, cond_false]
        by_cases h1 : i < m + 1
        · rw [if_pos h1, if_pos h1]
          by_cases h2 : i < m
          · rw [if_pos h2, if_pos h2]
          · rw [if_neg h2, if_neg h2, show (i - m) * 6 + j = j by rw [show i - m = 0 by omega]; omega, cell_of y j hj]
        · rw [if_neg h1, if_neg h1]
          all_goals first | rfl | (rw [show ((m : Int) + 1).toNat = m + 1 by omega])
      · show (if i < (m : Int).toNat - Int.toNat 0 + 1 then (if i < (m : Int).toNat - Int.toNat 0 then dS (v.keys.getD (i + Int.toNat 0) ⟨#[]⟩) else ([dS key] : List DD).getD ((i - ((m : Int).toNat - Int.toNat 0)) * 1 + j) .opq) else dS (v.keys.getD (i - ((m : Int).toNat - Int.toNat 0 + 1) + (m : Int).toNat) ⟨#[]⟩)) = _
        simp only [Int.toNat_natCast, Int.toNat_zero, Nat.sub_zero, Nat.add_zero, cond_true, cond_false]
        by_cases h1 : i < m + 1
        · rw [if_pos h1, if_pos h1]
          by_cases h2 : i < m
          · rw [if_pos h2, if_pos h2]
          · rw [if_neg h2, if_neg h2, show (i - m) * 1 + j = 0 by rw [show i - m = 0 by omega]; omega]
            rfl
        · rw [if_neg h1, if_neg h1]
          all_goals first | rfl | (rw [show ((m : Int) + 1).toNat = m + 1 by omega])
end
end se
end Go.Proofs.YtgdoelfajfjopaaGreatDoor
