/-
  A value without the item to which a route leads: the program's remove.
-/
import Derived.Test.YtjbgafbijamckaaGreatDoorS6
import Derived.Test.YtjbgafbijamckaaGreatDoorN18
namespace Go.Proofs.YtjbgafbijamckaaGreatDoor
open Go.RowKit
set_option linter.unusedVariables false
set_option linter.unusedSimpArgs false
namespace cr
/-- The place to which a step leads. -/
def posS (v : Vu) (s : Stp) : Nat := if s.key = ⟨#[]⟩ then s.number.toNat else findK v s.key
def remAt (v : Vu) (k : Nat) : Vu := .mk v.kind v.b v.i v.text (v.items.eraseIdx k) (if v.kind = 6 then v.keys.eraseIdx k else v.keys)
def setAt (v : Vu) (k : Nat) (y : Vu) : Vu := .mk v.kind v.b v.i v.text (v.items.set k y) v.keys
/-- A value without the item to which steps lead. -/
def remS : List Stp → Vu → Option Vu
  | [], _ => none
  | [s], v => match followS v s with
    | none => none
    | some _ => some (remAt v (posS v s))
  | s :: t :: r, v => match followS v s with
    | none => none
    | some x => match remS (t :: r) x with
      | none => none
      | some y => some (setAt v (posS v s) y)
theorem pos_at {v x : Vu} {s : Stp} (hs : s.ok) (hf : faultE v = 0) (h : followS v s = some x) : posS v s < v.items.length ∧ x = v.items.getD (posS v s) .zero ∧ (s.key = ⟨#[]⟩ → v.kind = 5) ∧ (¬ s.key = ⟨#[]⟩ → v.kind = 6 ∧ posS v s < v.keys.length ∧ hasK v s.key = true) := by
  unfold followS at h
  unfold posS
  unfold Stp.ok at hs
  by_cases hk : s.key = ⟨#[]⟩
  · rw [if_pos hk] at h ⊢
    split at h
    · rename_i h2
      injection h with h
      exact ⟨by omega, h.symm, fun _ => h2.1, fun h3 => absurd hk h3⟩
    · cases h
  · rw [if_neg hk] at h ⊢
    split at h
    · rename_i h2
      injection h with h
      have h3 := has_lt h2.2
      have h4 := (fault_keys hf).2 h2.1
      exact ⟨by omega, h.symm, fun h5 => absurd h5 hk, fun _ => ⟨h2.1, h3, h2.2⟩⟩
    · cases h
theorem erase_at {α : Type} (l : List α) (d : α) (m i : Nat) : (l.eraseIdx m).getD i d = if i < m then l.getD i d else l.getD (i + 1) d := by
  simp only [List.getD, List.getElem?_eraseIdx]
  split <;> rfl
theorem set_at {α : Type} (l : List α) (d y : α) (m i : Nat) (hm : m < l.length) : (l.set m y).getD i d = if i = m then y else l.getD i d := by
  simp only [List.getD, List.getElem?_set]
  by_cases h : m = i
  · subst h
    rw [if_pos rfl, if_pos hm, if_pos rfl]
    rfl
  · rw [if_neg h, if_neg (fun e => h e.symm)]
theorem erase_len {α : Type} (l : List α) (m : Nat) (hm : m < l.length) : (l.eraseIdx m).length = l.length - 1 := by
  rw [List.length_eraseIdx, if_pos hm]
section
variable (E : Env)
set_option maxRecDepth 100000
theorem row_erase (l : List Vu) (m n : Nat) (g : Nat → Nat → DD) (hm : m < l.length) (hn : n = l.length - 1) (hg : ∀ i j, i < n → j < 6 → g i j = if i < m then (l.getD i .zero).cell j else (l.getD (i + 1) .zero).cell j) : Dle (cx Tryz.prog mixed tyT_ok E) (.sl 6 88 n g) (.rc (.vals (l.eraseIdx m))) :=
  Dle.rc (X := (cx Tryz.prog mixed tyT_ok E)) (Dle.sl (X := (cx Tryz.prog mixed tyT_ok E)) (by rw [hn]; exact (erase_len l m hm).symm) (fun i j hi hj => Dle.of_eq (by
    rw [hg i j hi hj]
    show _ = ((l.eraseIdx m).getD i .zero).cell j
    rw [erase_at]
    split <;> rfl)))
theorem keys_erase (l : List ByteArray) (m n : Nat) (g : Nat → Nat → DD) (hm : m < l.length) (hn : n = l.length - 1) (hg : ∀ i j, i < n → j < 1 → g i j = if i < m then dS (l.getD i ⟨#[]⟩) else dS (l.getD (i + 1) ⟨#[]⟩)) : Dle (cx Tryz.prog mixed tyT_ok E) (.sl 1 16 n g) (encStrs (l.eraseIdx m)) :=
  Dle.sl (X := (cx Tryz.prog mixed tyT_ok E)) (by rw [hn]; exact (erase_len l m hm).symm) (fun i j hi hj => Dle.of_eq (by
    rw [hg i j hi hj, erase_at]
    split <;> rfl))
theorem row_set (l : List Vu) (y : Vu) (m n : Nat) (g : Nat → Nat → DD) (hm : m < l.length) (hn : n = l.length) (hg : ∀ i j, i < n → j < 6 → g i j = if i = m then y.cell j else (l.getD i .zero).cell j) : Dle (cx Tryz.prog mixed tyT_ok E) (.sl 6 88 n g) (.rc (.vals (l.set m y))) :=
  Dle.rc (X := (cx Tryz.prog mixed tyT_ok E)) (Dle.sl (X := (cx Tryz.prog mixed tyT_ok E)) (by rw [hn]; exact (List.length_set ..).symm) (fun i j hi hj => Dle.of_eq (by
    rw [hg i j hi hj]
    show _ = ((l.set m y).getD i .zero).cell j
    rw [set_at _ _ _ _ _ hm]
    split <;> rfl)))
theorem set_cell (y : Vu) (f : Nat → Nat → DD) (k i j : Nat) (hj : j < 6) : rowSet f k 0 [i64 y.kind, dB y.b, i64 y.i, dS y.text, .rc (.vals y.items), encStrs y.keys] i j = if i = k then y.cell j else f i j := by
  unfold rowSet
  by_cases h : i = k
  · rw [if_pos ⟨h, Nat.zero_le _, by show j < 0 + 6; omega⟩, if_pos h]
    match j, hj with
    | 0, _ => rfl
    | 1, _ => rfl
    | 2, _ => rfl
    | 3, _ => rfl
    | 4, _ => rfl
    | 5, _ => rfl
  · rw [if_neg (fun h2 => h h2.1), if_neg h]
set_option maxHeartbeats 8000000 in
theorem remove_sp : ∀ (L : List Stp) (v : Vu), L ≠ [] → (∀ s ∈ L, s.ok) → faultE v = 0 → v.wt ≤ 100000000000 → Sp (cx Tryz.prog mixed tyT_ok E) 22 [encV v, encSteps L] (.tup [encV ((remS L v).getD .zero), i64 (if (remS L v).isSome = true then 0 else 7)])
  | [], v, h, _, _, _ => absurd rfl h
  | s :: t, v, _, hs, hf, hw => by
    have hs0 : s.ok := hs s List.mem_cons_self
    have c1 := follow_sp E v s hs0 (fault_keys hf).2 (by have := keys_le_wt v; omega)
    have c2 := find_sp E v s.key (by have := keys_le_wt v; omega)
    have hkw := keys_le_wt v
    have hl0 : (s :: t).length = t.length + 1 := rfl
    have hiw : v.items.length ≤ v.wt := by have := wtL_le_wt v; have := len_le_wtL v.items; omega
    have hby : v.items.length * (87 + 1) ≤ 140737488355328 := by omega
    have hby2 : v.keys.length * (15 + 1) ≤ 140737488355328 := by omega
    cases hF : followS v s with
    | none =>
      have hr : remS (s :: t) v = none := by
        cases t <;> simp only [remS, hF]
      rw [hr]
      rw [hF] at c1
      refine Sp.body Tryz.func22 (by kernel_rfl) rfl (by kernel_rfl) (by kernel_rfl) (by kernel_rfl) ?_
      repeat' first
        | (refine codeW_cond rfl ?_; first | (refine condW_dec ?_ ?_ <;> intro _ <;> try (exfalso; omega)) | refine condW_not ?_ | (refine condW_bool ?_ ?_ <;> intro _ <;> try (exfalso; omega)))
        | (refine facW_intro ?_; intro _)
        | refine Or.inl ?_
        | ((conv => whnf); first | (refine condW_dec ?_ ?_ <;> intro _ <;> try (exfalso; omega)) | refine condW_not ?_ | (refine condW_bool ?_ ?_ <;> intro _ <;> try (exfalso; omega)) | (refine nbC_t (fun _ => ?_) ?_) | (refine nbC_f ?_ (fun _ => ?_)))
        | refine And.intro (by first | omega | (simp only [Int.toNat_natCast] at *; omega) | (simp only [Nat.reduceAdd, Int.cast_ofNat_Int, true_and, and_true]; omega)  | (simp only [cx, view, Nat.reduceAdd, Int.toNat_natCast]; omega) | kernel_rfl) ?_
        | refine RegW.run ?_
        | refine ⟨_, c1, ?_⟩
        | refine ⟨_, c2, ?_⟩
        | fail
      all_goals first
        | (exfalso; rename_i h; cases h; done)
        | exact Dle.tup (X := (cx Tryz.prog mixed tyT_ok E)) ⟨zeroC E, Dle.refl _ _, trivial⟩
        | trace_state
    | some x =>
      obtain ⟨p1, p2, p3, p4⟩ := pos_at hs0 hf hF
      obtain ⟨hfx, hwx⟩ := follow_mem hs0 hf hF
      rw [hF] at c1
      cases t with
      | nil =>
        have hr : remS [s] v = some (remAt v (posS v s)) := by simp only [remS, hF]
        rw [hr]
        unfold Stp.ok at hs0
        by_cases hk : s.key = ⟨#[]⟩
        · have hm : posS v s = s.number.toNat := by unfold posS; rw [if_pos hk]
          rw [hm] at p1 p2 p4 ⊢
          have h5 := p3 hk
          have hlen1 : ([s] : List Stp).length = 1 := rfl
          refine Sp.body Tryz.func22 (by kernel_rfl) rfl (by kernel_rfl) (by kernel_rfl) (by kernel_rfl) ?_
          have hn0 : 0 ≤ ([s].getD (Int.toNat 0) default).number := hs0
          have hn1 : ([s].getD (Int.toNat 0) default).number < (v.items.length : Int) := by show s.number < _; omega
          repeat' first
            | (refine codeW_cond rfl ?_; first | (refine condW_dec ?_ ?_ <;> intro _ <;> try (exfalso; first | omega | rename_i h; exact h hk)) | refine condW_not ?_ | (refine condW_bool ?_ ?_ <;> intro _ <;> try (exfalso; first | omega | rename_i h; exact h hk)))
            | (refine facW_intro ?_; intro _)
            | refine Or.inl ?_
            | ((conv => whnf); first | (refine condW_dec ?_ ?_ <;> intro _ <;> try (exfalso; first | omega | rename_i h; exact h hk)) | refine condW_not ?_ | (refine condW_bool ?_ ?_ <;> intro _ <;> try (exfalso; first | omega | rename_i h; exact h hk)) | (refine nbC_t (fun _ => ?_) ?_) | (refine nbC_f ?_ (fun _ => ?_)))
            | refine And.intro (by first | omega | (simp only [Int.toNat_natCast] at *; omega) | (simp only [Nat.reduceAdd, Int.cast_ofNat_Int, true_and, and_true]; omega)  | (simp only [cx, view, Nat.reduceAdd, Int.toNat_natCast]; omega) | kernel_rfl) ?_
            | refine RegW.run ?_
            | refine ⟨_, c1, ?_⟩
            | refine ⟨_, c2, ?_⟩
            | fail
          have hrk : remAt v s.number.toNat = .mk v.kind v.b v.i v.text (v.items.eraseIdx s.number.toNat) v.keys := by unfold remAt; rw [if_neg (by omega)]
          rw [hrk]
          all_goals first
            | (exfalso; omega)
            | (refine Dle.tup (X := (cx Tryz.prog mixed tyT_ok E)) ⟨Dle.agg (X := (cx Tryz.prog mixed tyT_ok E)) ⟨Dle.refl _ _, Dle.refl _ _, Dle.refl _ _, Dle.refl _ _, row_erase E v.items s.number.toNat _ _ p1 ?_ (fun i j hi hj => ?_), Dle.refl _ _, trivial⟩, Dle.refl _ _, trivial⟩
               · show s.number.toNat - 0 + ((v.items.length : Int).toNat - (s.number + 1).toNat) = _
                 omega
               · show (if i < s.number.toNat - 0 then (v.items.getD i .zero).cell j else (v.items.getD (i - (s.number.toNat - 0) + (0 + (s.number + 1).toNat)) .zero).cell j) = _
                 by_cases h : i < s.number.toNat
                 · rw [if_pos (by omega), if_pos h]
                 · rw [if_neg (by omega), if_neg h, show i - (s.number.toNat - 0) + (0 + (s.number + 1).toNat) = i + 1 by omega])
            | trace_state
        · have hm : posS v s = findK v s.key := by unfold posS; rw [if_neg hk]
          rw [hm] at p1 p2 p4 ⊢
          obtain ⟨h6, p5, p6⟩ := p4 hk
          rw [p6] at c2
          refine Sp.body Tryz.func22 (by kernel_rfl) rfl (by kernel_rfl) (by kernel_rfl) (by kernel_rfl) ?_
          have hn0 : 0 ≤ (findK v s.key : Int) := by omega
          have hn1 : (findK v s.key : Int) < (v.items.length : Int) := by omega
          repeat' first
            | (refine codeW_cond rfl ?_; first | (refine condW_dec ?_ ?_ <;> intro _ <;> try (exfalso; first | omega | rename_i h; exact hk h)) | refine condW_not ?_ | (refine condW_bool ?_ ?_ <;> intro _ <;> try (exfalso; first | omega | rename_i h; exact hk h)))
            | (refine facW_intro ?_; intro _)
            | refine Or.inl ?_
            | ((conv => whnf); first | (refine condW_dec ?_ ?_ <;> intro _ <;> try (exfalso; first | omega | rename_i h; exact hk h)) | refine condW_not ?_ | (refine condW_bool ?_ ?_ <;> intro _ <;> try (exfalso; first | omega | rename_i h; exact hk h)) | (refine nbC_t (fun _ => ?_) ?_) | (refine nbC_f ?_ (fun _ => ?_)))
            | refine And.intro (by first | omega | (simp only [Int.toNat_natCast] at *; omega) | (simp only [Nat.reduceAdd, Int.cast_ofNat_Int, true_and, and_true]; omega)  | (simp only [cx, view, Nat.reduceAdd, Int.toNat_natCast]; omega) | kernel_rfl) ?_
            | refine RegW.run ?_
            | refine ⟨_, c1, ?_⟩
            | refine ⟨_, c2, ?_⟩
            | fail
          have hrk : remAt v (findK v s.key) = .mk v.kind v.b v.i v.text (v.items.eraseIdx (findK v s.key)) (v.keys.eraseIdx (findK v s.key)) := by unfold remAt; rw [if_pos h6]
          rw [hrk]
          all_goals first
            | (exfalso; omega)
            | (refine Dle.tup (X := (cx Tryz.prog mixed tyT_ok E)) ⟨Dle.agg (X := (cx Tryz.prog mixed tyT_ok E)) ⟨Dle.refl _ _, Dle.refl _ _, Dle.refl _ _, Dle.refl _ _, row_erase E v.items (findK v s.key) _ _ p1 ?_ (fun i j hi hj => ?_), keys_erase E v.keys (findK v s.key) _ _ p5 ?_ (fun i j hi hj => ?_), trivial⟩, Dle.refl _ _, trivial⟩
               · show (findK v s.key : Int).toNat - 0 + ((v.items.length : Int).toNat - ((findK v s.key : Int) + 1).toNat) = _
                 omega
               · show (if i < (findK v s.key : Int).toNat - 0 then (v.items.getD i .zero).cell j else (v.items.getD (i - ((findK v s.key : Int).toNat - 0) + (0 + ((findK v s.key : Int) + 1).toNat)) .zero).cell j) = _
                 by_cases h : i < findK v s.key
                 · rw [if_pos (by omega), if_pos h]
                 · rw [if_neg (by omega), if_neg h, show i - ((findK v s.key : Int).toNat - 0) + (0 + ((findK v s.key : Int) + 1).toNat) = i + 1 by omega]
               · show (findK v s.key : Int).toNat - 0 + ((v.keys.length : Int).toNat - ((findK v s.key : Int) + 1).toNat) = _
                 omega
               · show (if i < (findK v s.key : Int).toNat - 0 then dS (v.keys.getD i ⟨#[]⟩) else dS (v.keys.getD (i - ((findK v s.key : Int).toNat - 0) + ((findK v s.key : Int) + 1).toNat) ⟨#[]⟩)) = _
                 by_cases h : i < findK v s.key
                 · rw [if_pos (by omega), if_pos h]
                 · rw [if_neg (by omega), if_neg h, show i - ((findK v s.key : Int).toNat - 0) + ((findK v s.key : Int) + 1).toNat = i + 1 by omega])
            | trace_state
      | cons s2 t2 =>
        have ih := remove_sp (s2 :: t2) x (by simp) (fun q hq => hs q (List.mem_cons_of_mem _ hq)) hfx (by omega)
        have hsl : ∀ (n : Nat) (g : Nat → Nat → DD), n = (s2 :: t2).length → (∀ i j, g i j = ((s :: s2 :: t2).getD (i + 1) default).cell j) → Dle (cx Tryz.prog mixed tyT_ok E) (.sl 3 32 n g) (encSteps (s2 :: t2)) := fun n g hn hg => Dle.sl (X := (cx Tryz.prog mixed tyT_ok E)) hn (fun i j _ _ => Dle.of_eq (hg i j))
        have hr : remS (s :: s2 :: t2) v = match remS (s2 :: t2) x with | none => none | some y => some (setAt v (posS v s) y) := by simp only [remS, hF]
        have hn2 : ((s :: s2 :: t2).length : Int).toNat - 1 = (s2 :: t2).length := by
          show ((t2.length + 1 + 1 : Nat) : Int).toNat - 1 = t2.length + 1
          omega
        have hl2 : (s :: s2 :: t2).length = t2.length + 2 := rfl
        unfold Stp.ok at hs0
        cases hR : remS (s2 :: t2) x with
        | none =>
          rw [hR] at hr ih
          rw [hr]
          refine Sp.body Tryz.func22 (by kernel_rfl) rfl (by kernel_rfl) (by kernel_rfl) (by kernel_rfl) ?_
          repeat' first
            | (refine codeW_cond rfl ?_; first | (refine condW_dec ?_ ?_ <;> intro _ <;> try (exfalso; omega)) | refine condW_not ?_ | (refine condW_bool ?_ ?_ <;> intro _ <;> try (exfalso; omega)))
            | (refine facW_intro ?_; intro _)
            | refine Or.inl ?_
            | ((conv => whnf); first | (refine condW_dec ?_ ?_ <;> intro _ <;> try (exfalso; omega)) | refine condW_not ?_ | (refine condW_bool ?_ ?_ <;> intro _ <;> try (exfalso; omega)) | (refine nbC_t (fun _ => ?_) ?_) | (refine nbC_f ?_ (fun _ => ?_)))
            | refine And.intro (by first | omega | (simp only [Int.toNat_natCast] at *; omega) | (simp only [Nat.reduceAdd, Int.cast_ofNat_Int, true_and, and_true]; omega)  | (simp only [cx, view, Nat.reduceAdd, Int.toNat_natCast]; omega) | kernel_rfl) ?_
            | refine RegW.run ?_
            | refine ⟨_, c1, ?_⟩
            | refine ⟨_, c2, ?_⟩
            | refine ⟨_, ih.args ⟨Dle.refl _ _, hsl _ _ hn2 (fun _ _ => rfl), trivial⟩, ?_⟩
            | fail
          all_goals first
            | exact Dle.tup (X := (cx Tryz.prog mixed tyT_ok E)) ⟨zeroC E, Dle.refl _ _, trivial⟩
            | (exfalso; omega)
            | trace_state
        | some y =>
          rw [hR] at hr ih
          rw [hr]
          by_cases hk : s.key = ⟨#[]⟩
          · have hm : posS v s = s.number.toNat := by unfold posS; rw [if_pos hk]
            rw [hm] at p1 p2 p4 ⊢
            have hn0 : 0 ≤ ((s :: s2 :: t2).getD (Int.toNat 0) default).number := hs0
            have hn1 : ((s :: s2 :: t2).getD (Int.toNat 0) default).number < (v.items.length : Int) := by show s.number < _; omega
            refine Sp.body Tryz.func22 (by kernel_rfl) rfl (by kernel_rfl) (by kernel_rfl) (by kernel_rfl) ?_
            repeat' first
              | (refine codeW_cond rfl ?_; first | (refine condW_dec ?_ ?_ <;> intro _ <;> try (exfalso; first | omega | rename_i h; exact h hk)) | refine condW_not ?_ | (refine condW_bool ?_ ?_ <;> intro _ <;> try (exfalso; first | omega | rename_i h; exact h hk)))
              | (refine facW_intro ?_; intro _)
              | refine Or.inl ?_
              | ((conv => whnf); first | (refine condW_dec ?_ ?_ <;> intro _ <;> try (exfalso; first | omega | rename_i h; exact h hk)) | refine condW_not ?_ | (refine condW_bool ?_ ?_ <;> intro _ <;> try (exfalso; first | omega | rename_i h; exact h hk)) | (refine nbC_t (fun _ => ?_) ?_) | (refine nbC_f ?_ (fun _ => ?_)))
              | refine And.intro (by first | omega | (simp only [Int.toNat_natCast] at *; omega) | (simp only [Nat.reduceAdd, Int.cast_ofNat_Int, true_and, and_true]; omega)  | (simp only [cx, view, Nat.reduceAdd, Int.toNat_natCast]; omega) | kernel_rfl) ?_
              | refine RegW.run ?_
              | refine ⟨_, c1, ?_⟩
              | refine ⟨_, c2, ?_⟩
              | refine ⟨_, ih.args ⟨Dle.refl _ _, hsl _ _ hn2 (fun _ _ => rfl), trivial⟩, ?_⟩
              | fail
            all_goals first
              | (exfalso; omega)
              | (refine Dle.tup (X := (cx Tryz.prog mixed tyT_ok E)) ⟨Dle.agg (X := (cx Tryz.prog mixed tyT_ok E)) ⟨Dle.refl _ _, Dle.refl _ _, Dle.refl _ _, Dle.refl _ _, row_set E v.items y (s.number.toNat) _ _ p1 rfl (fun i j hi hj => ?_), Dle.refl _ _, trivial⟩, Dle.refl _ _, trivial⟩
                 show rowSet (fun i j => (v.items.getD i .zero).cell j) (0 + s.number.toNat) 0 [i64 y.kind, dB y.b, i64 y.i, dS y.text, .rc (.vals y.items), encStrs y.keys] i j = _
                 rw [set_cell _ _ _ _ _ hj, show 0 + s.number.toNat = s.number.toNat by omega])
              | trace_state
          · have hm : posS v s = findK v s.key := by unfold posS; rw [if_neg hk]
            rw [hm] at p1 p2 p4 ⊢
            obtain ⟨h6, p5, p6⟩ := p4 hk
            rw [p6] at c2
            have hn0 : 0 ≤ (findK v s.key : Int) := by omega
            have hn1 : (findK v s.key : Int) < (v.items.length : Int) := by omega
            refine Sp.body Tryz.func22 (by kernel_rfl) rfl (by kernel_rfl) (by kernel_rfl) (by kernel_rfl) ?_
            repeat' first
              | (refine codeW_cond rfl ?_; first | (refine condW_dec ?_ ?_ <;> intro _ <;> try (exfalso; first | omega | rename_i h; exact hk h)) | refine condW_not ?_ | (refine condW_bool ?_ ?_ <;> intro _ <;> try (exfalso; first | omega | rename_i h; exact hk h)))
              | (refine facW_intro ?_; intro _)
              | refine Or.inl ?_
              | ((conv => whnf); first | (refine condW_dec ?_ ?_ <;> intro _ <;> try (exfalso; first | omega | rename_i h; exact hk h)) | refine condW_not ?_ | (refine condW_bool ?_ ?_ <;> intro _ <;> try (exfalso; first | omega | rename_i h; exact hk h)) | (refine nbC_t (fun _ => ?_) ?_) | (refine nbC_f ?_ (fun _ => ?_)))
              | refine And.intro (by first | omega | (simp only [Int.toNat_natCast] at *; omega) | (simp only [Nat.reduceAdd, Int.cast_ofNat_Int, true_and, and_true]; omega)  | (simp only [cx, view, Nat.reduceAdd, Int.toNat_natCast]; omega) | kernel_rfl) ?_
              | refine RegW.run ?_
              | refine ⟨_, c1, ?_⟩
              | refine ⟨_, c2, ?_⟩
              | refine ⟨_, ih.args ⟨Dle.refl _ _, hsl _ _ hn2 (fun _ _ => rfl), trivial⟩, ?_⟩
              | fail
            all_goals first
              | (exfalso; omega)
              | (refine Dle.tup (X := (cx Tryz.prog mixed tyT_ok E)) ⟨Dle.agg (X := (cx Tryz.prog mixed tyT_ok E)) ⟨Dle.refl _ _, Dle.refl _ _, Dle.refl _ _, Dle.refl _ _, row_set E v.items y (findK v s.key) _ _ p1 rfl (fun i j hi hj => ?_), Dle.refl _ _, trivial⟩, Dle.refl _ _, trivial⟩
                 show rowSet (fun i j => (v.items.getD i .zero).cell j) (0 + (findK v s.key : Int).toNat) 0 [i64 y.kind, dB y.b, i64 y.i, dS y.text, .rc (.vals y.items), encStrs y.keys] i j = _
                 rw [set_cell _ _ _ _ _ hj, show 0 + (findK v s.key : Int).toNat = findK v s.key by omega])
              | trace_state
end
end cr
end Go.Proofs.YtjbgafbijamckaaGreatDoor
