/-
  A value without the item to which parts lead: the reference's drop.
-/
import Derived.Test.YtjbgafbijamckaaGreatDoorCr2
import Derived.Test.YtjbgafbijamckaaGreatDoorRs0
namespace Go.Proofs.YtjbgafbijamckaaGreatDoor
open Go.RowKit
set_option linter.unusedVariables false
set_option linter.unusedSimpArgs false
namespace cr
theorem step_pos {v x : Vu} {p : ByteArray} (h : partOk false p = true) (hf : faultE v = 0) (hs : followS v (stepOf p) = some x) : stepR v p = (posS v (stepOf p) : Nat) := by
  obtain ⟨h0, hc⟩ := part_cases h
  have hp : ¬ p = ⟨#[]⟩ := fun e => by rw [e] at h0; exact absurd h0 (by decide)
  rcases hc with ⟨hk, h97⟩ | ⟨hk, hi, h97⟩
  · have e : stepOf p = ⟨p, 0, false⟩ := by unfold stepOf; rw [if_pos hk]
    rw [e] at hs ⊢
    unfold followS at hs
    rw [if_neg hp] at hs
    split at hs
    · rename_i h2
      unfold stepR posS
      rw [if_pos h97, if_pos h2.1, if_neg hp]
      rcases rs.idx_find (fault_keys hf).1 p with ⟨_, h3⟩ | ⟨h3, _⟩
      · rw [h2.2] at h3; cases h3
      · exact h3
    · cases hs
  · have e := step_idx hk hi
    rw [e] at hs ⊢
    unfold followS at hs
    rw [if_pos rfl] at hs
    split at hs
    · rename_i h2
      unfold stepR posS
      rw [if_neg (by omega), if_pos rfl]
      have h2 : v.kind = 5 ∧ (numN p : Int) < v.items.length := h2
      rw [if_pos h2]
      show (numN p : Int) = ((numN p : Int).toNat : Nat)
      omega
    · cases hs
section
variable (E : Env)
set_option maxRecDepth 100000
theorem delV_i (L n i : Nat) (hi : i + 1 ≤ n) (F : Nat → Nat → DD) : SpH (cx Tryz.prog mixed tyT_ok E) 55 [.own L 6 0 n, i64 i, i64 ((i : Int) + 1)] [(L, .row 25 n F)] (.own L 6 0 (n - 1)) [(L, .row 25 (n - 1) (fun k j => if k < i then F k j else F (k + 1) j))] := delV_l E L n i hi F
theorem delK_i (L n i : Nat) (hi : i + 1 ≤ n) (F : Nat → Nat → DD) : SpH (cx Tryz.prog mixed tyT_ok E) 56 [.own L 1 0 n, i64 i, i64 ((i : Int) + 1)] [(L, .row 9 n F)] (.own L 1 0 (n - 1)) [(L, .row 9 (n - 1) (fun k j => if k < i then F k j else F (k + 1) j))] := delK_l E L n i hi F
set_option maxHeartbeats 8000000 in
theorem drop_sp : ∀ (P : List ByteArray) (v : Vu), P ≠ [] → (∀ p ∈ P, partOk false p = true) → faultE v = 0 → (getS (P.map stepOf) v).isSome = true → v.wt ≤ 100000000000 → Sp (cx Tryz.prog mixed tyT_ok E) 24 [encV v, encStrs P] (encV ((remS (P.map stepOf) v).getD .zero))
  | [], v, h, _, _, _, _ => absurd rfl h
  | p :: t, v, _, hs, hf, hg, hw => by
    have hp0 := hs p List.mem_cons_self
    have hkw := keys_le_wt v
    have hiw : v.items.length ≤ v.wt := by have := wtL_le_wt v; have := len_le_wtL v.items; omega
    have k1 := cloneV_l E 10 v.items (by omega)
    have k2 := cloneK_l E 13 v.keys (by omega)
    have c1 := step_sp E v p hp0
    have hl0 : (p :: t).length = t.length + 1 := rfl
    have hst : (stepOf p).ok := steps_ok (p :: t) _ (by simp)
    cases hF : followS v (stepOf p) with
    | none => simp only [List.map_cons, getS, hF] at hg; cases hg
    | some x =>
      obtain ⟨p1, p2, p3, p4⟩ := pos_at hst hf hF
      obtain ⟨hfx, hwx⟩ := follow_mem hst hf hF
      rw [step_pos hp0 hf hF] at c1
      cases t with
      | nil =>
        have hr : remS ([p].map stepOf) v = some (remAt v (posS v (stepOf p))) := by simp only [List.map_cons, List.map_nil, remS, hF]
        rw [hr]
        generalize posS v (stepOf p) = m at c1 p1 p2 p4 ⊢
        have d1 := delV_i E 10 v.items.length m (by omega) (rowV v.items)
        have hl1 : ([p] : List ByteArray).length = 1 := rfl
        by_cases h6 : v.kind = 6
        · have p5 : m < v.keys.length := by
            by_cases hk : (stepOf p).key = ⟨#[]⟩
            · have := p3 hk; omega
            · exact (p4 hk).2.1
          have d2 := delK_i E 13 v.keys.length m (by omega) (rowK v.keys)
          refine Sp.body Tryz.func24 (by kernel_rfl) rfl (by kernel_rfl) (by kernel_rfl) (by kernel_rfl) ?_
          repeat' first
            | refine Or.inr ⟨_, _, _, k1, by kernel_rfl, (by repeat' first | exact trivial | exact rfl | kernel_rfl | exact Dle.of_eq rfl | exact MLe.of_eq rfl | exact Dle.i (by omega) | exact Dle.i (by simp only [Int.toNat_natCast] at *; omega) | exact Dle.nil | exact Dle.rc Dle.nil | exact Option.some_ne_none _ | exact Or.inl rfl | exact Or.inr trivial | omega | (simp only [Int.toNat_natCast] at *; omega) | (intro _ _ _ _; exact Dle.of_eq rfl) | refine And.intro ?_ ?_), ?_⟩
            | refine Or.inr ⟨_, _, _, k2, by kernel_rfl, (by repeat' first | exact trivial | exact rfl | kernel_rfl | exact Dle.of_eq rfl | exact MLe.of_eq rfl | exact Dle.i (by omega) | exact Dle.i (by simp only [Int.toNat_natCast] at *; omega) | exact Dle.nil | exact Dle.rc Dle.nil | exact Option.some_ne_none _ | exact Or.inl rfl | exact Or.inr trivial | omega | (simp only [Int.toNat_natCast] at *; omega) | (intro _ _ _ _; exact Dle.of_eq rfl) | refine And.intro ?_ ?_), ?_⟩
            | refine Or.inr ⟨_, _, _, d1, by kernel_rfl, (by repeat' first | exact trivial | exact rfl | kernel_rfl | exact Dle.of_eq rfl | exact MLe.of_eq rfl | exact Dle.i (by omega) | exact Dle.i (by simp only [Int.toNat_natCast] at *; omega) | exact Dle.nil | exact Dle.rc Dle.nil | exact Option.some_ne_none _ | exact Or.inl rfl | exact Or.inr trivial | omega | (simp only [Int.toNat_natCast] at *; omega) | (intro _ _ _ _; exact Dle.of_eq rfl) | refine And.intro ?_ ?_), ?_⟩
            | refine Or.inr ⟨_, _, _, d2, by kernel_rfl, (by repeat' first | exact trivial | exact rfl | kernel_rfl | exact Dle.of_eq rfl | exact MLe.of_eq rfl | exact Dle.i (by omega) | exact Dle.i (by simp only [Int.toNat_natCast] at *; omega) | exact Dle.nil | exact Dle.rc Dle.nil | exact Option.some_ne_none _ | exact Or.inl rfl | exact Or.inr trivial | omega | (simp only [Int.toNat_natCast] at *; omega) | (intro _ _ _ _; exact Dle.of_eq rfl) | refine And.intro ?_ ?_), ?_⟩
            | (refine codeW_cond rfl ?_; first | (refine condW_dec ?_ ?_ <;> intro _ <;> try (exfalso; omega)) | refine condW_not ?_ | (refine condW_bool ?_ ?_ <;> intro _ <;> try (exfalso; omega)))
            | (refine facW_intro ?_; intro _)
            | refine Or.inl ?_
            | ((conv => whnf); first | (refine condW_dec ?_ ?_ <;> intro _ <;> try (exfalso; omega)) | refine condW_not ?_ | (refine condW_bool ?_ ?_ <;> intro _ <;> try (exfalso; omega)) | (refine nbC_t (fun _ => ?_) ?_) | (refine nbC_f ?_ (fun _ => ?_)))
            | refine And.intro (by first | omega | (simp only [Int.toNat_natCast] at *; omega) | (simp only [Nat.reduceAdd, Int.cast_ofNat_Int, true_and, and_true]; omega)  | (simp only [cx, view, Nat.reduceAdd, Int.toNat_natCast]; omega) | kernel_rfl) ?_
            | refine RegW.run ?_
            | refine ⟨_, c1, ?_⟩
            | fail
          have hrk : remAt v m = .mk v.kind v.b v.i v.text (v.items.eraseIdx m) (v.keys.eraseIdx m) := by unfold remAt; rw [if_pos h6]
          rw [hrk]
          all_goals first
            | (exfalso; omega)
            | exact Dle.agg (X := (cx Tryz.prog mixed tyT_ok E)) ⟨Dle.refl _ _, Dle.refl _ _, Dle.refl _ _, Dle.refl _ _, row_erase E v.items m _ _ p1 rfl (fun i j _ _ => rfl), keys_erase E v.keys m _ _ p5 rfl (fun i j _ _ => rfl), trivial⟩
            | trace_state
        · refine Sp.body Tryz.func24 (by kernel_rfl) rfl (by kernel_rfl) (by kernel_rfl) (by kernel_rfl) ?_
          repeat' first
            | refine Or.inr ⟨_, _, _, k1, by kernel_rfl, (by repeat' first | exact trivial | exact rfl | kernel_rfl | exact Dle.of_eq rfl | exact MLe.of_eq rfl | exact Dle.i (by omega) | exact Dle.i (by simp only [Int.toNat_natCast] at *; omega) | exact Dle.nil | exact Dle.rc Dle.nil | exact Option.some_ne_none _ | exact Or.inl rfl | exact Or.inr trivial | omega | (simp only [Int.toNat_natCast] at *; omega) | (intro _ _ _ _; exact Dle.of_eq rfl) | refine And.intro ?_ ?_), ?_⟩
            | refine Or.inr ⟨_, _, _, k2, by kernel_rfl, (by repeat' first | exact trivial | exact rfl | kernel_rfl | exact Dle.of_eq rfl | exact MLe.of_eq rfl | exact Dle.i (by omega) | exact Dle.i (by simp only [Int.toNat_natCast] at *; omega) | exact Dle.nil | exact Dle.rc Dle.nil | exact Option.some_ne_none _ | exact Or.inl rfl | exact Or.inr trivial | omega | (simp only [Int.toNat_natCast] at *; omega) | (intro _ _ _ _; exact Dle.of_eq rfl) | refine And.intro ?_ ?_), ?_⟩
            | refine Or.inr ⟨_, _, _, d1, by kernel_rfl, (by repeat' first | exact trivial | exact rfl | kernel_rfl | exact Dle.of_eq rfl | exact MLe.of_eq rfl | exact Dle.i (by omega) | exact Dle.i (by simp only [Int.toNat_natCast] at *; omega) | exact Dle.nil | exact Dle.rc Dle.nil | exact Option.some_ne_none _ | exact Or.inl rfl | exact Or.inr trivial | omega | (simp only [Int.toNat_natCast] at *; omega) | (intro _ _ _ _; exact Dle.of_eq rfl) | refine And.intro ?_ ?_), ?_⟩
            | (refine codeW_cond rfl ?_; first | (refine condW_dec ?_ ?_ <;> intro _ <;> try (exfalso; omega)) | refine condW_not ?_ | (refine condW_bool ?_ ?_ <;> intro _ <;> try (exfalso; omega)))
            | (refine facW_intro ?_; intro _)
            | refine Or.inl ?_
            | ((conv => whnf); first | (refine condW_dec ?_ ?_ <;> intro _ <;> try (exfalso; omega)) | refine condW_not ?_ | (refine condW_bool ?_ ?_ <;> intro _ <;> try (exfalso; omega)) | (refine nbC_t (fun _ => ?_) ?_) | (refine nbC_f ?_ (fun _ => ?_)))
            | refine And.intro (by first | omega | (simp only [Int.toNat_natCast] at *; omega) | (simp only [Nat.reduceAdd, Int.cast_ofNat_Int, true_and, and_true]; omega)  | (simp only [cx, view, Nat.reduceAdd, Int.toNat_natCast]; omega) | kernel_rfl) ?_
            | refine RegW.run ?_
            | refine ⟨_, c1, ?_⟩
            | fail
          have hrk : remAt v m = .mk v.kind v.b v.i v.text (v.items.eraseIdx m) v.keys := by unfold remAt; rw [if_neg h6]
          rw [hrk]
          all_goals first
            | (exfalso; omega)
            | exact Dle.agg (X := (cx Tryz.prog mixed tyT_ok E)) ⟨Dle.refl _ _, Dle.refl _ _, Dle.refl _ _, Dle.refl _ _, row_erase E v.items m _ _ p1 rfl (fun i j _ _ => rfl), Dle.refl _ _, trivial⟩
            | trace_state
      | cons q2 t2 =>
        have hgt : (getS ((q2 :: t2).map stepOf) x).isSome = true := by
          simp only [List.map_cons, getS, hF] at hg
          exact hg
        have hrs := rem_some ((q2 :: t2).map stepOf) x (by simp)
        rw [hgt] at hrs
        have ih := drop_sp (q2 :: t2) x (by simp) (fun q hq => hs q (List.mem_cons_of_mem _ hq)) hfx hgt (by omega)
        have hr : remS ((p :: q2 :: t2).map stepOf) v = match remS ((q2 :: t2).map stepOf) x with | none => none | some y => some (setAt v (posS v (stepOf p)) y) := by
          simp only [List.map_cons, remS, hF]
          rfl
        rw [hr]
        obtain ⟨y, hy⟩ := Option.isSome_iff_exists.1 hrs
        rw [hy] at ih ⊢
        clear hr hy hrs hgt hg
        generalize posS v (stepOf p) = m at c1 p1 p2 p4 ⊢
        subst p2
        have hsl : ∀ (n : Nat) (g : Nat → Nat → DD), n = (q2 :: t2).length → (∀ i j, g i j = dS ((p :: q2 :: t2).getD (i + 1) ⟨#[]⟩)) → Dle (cx Tryz.prog mixed tyT_ok E) (.sl 1 16 n g) (encStrs (q2 :: t2)) := fun n g hn hg => Dle.sl (X := (cx Tryz.prog mixed tyT_ok E)) hn (fun i j _ _ => Dle.of_eq (hg i j))
        have hn2 : ((p :: q2 :: t2).length : Int).toNat - 1 = (q2 :: t2).length := by
          show ((t2.length + 1 + 1 : Nat) : Int).toNat - 1 = t2.length + 1
          omega
        have hl2 : (p :: q2 :: t2).length = t2.length + 2 := rfl
        refine Sp.body Tryz.func24 (by kernel_rfl) rfl (by kernel_rfl) (by kernel_rfl) (by kernel_rfl) ?_
        repeat' first
          | refine Or.inr ⟨_, _, _, k1, by kernel_rfl, (by repeat' first | exact trivial | exact rfl | kernel_rfl | exact Dle.of_eq rfl | exact MLe.of_eq rfl | exact Dle.i (by omega) | exact Dle.i (by simp only [Int.toNat_natCast] at *; omega) | exact Dle.nil | exact Dle.rc Dle.nil | exact Option.some_ne_none _ | exact Or.inl rfl | exact Or.inr trivial | omega | (simp only [Int.toNat_natCast] at *; omega) | (intro _ _ _ _; exact Dle.of_eq rfl) | refine And.intro ?_ ?_), ?_⟩
          | refine Or.inr ⟨_, _, _, k2, by kernel_rfl, (by repeat' first | exact trivial | exact rfl | kernel_rfl | exact Dle.of_eq rfl | exact MLe.of_eq rfl | exact Dle.i (by omega) | exact Dle.i (by simp only [Int.toNat_natCast] at *; omega) | exact Dle.nil | exact Dle.rc Dle.nil | exact Option.some_ne_none _ | exact Or.inl rfl | exact Or.inr trivial | omega | (simp only [Int.toNat_natCast] at *; omega) | (intro _ _ _ _; exact Dle.of_eq rfl) | refine And.intro ?_ ?_), ?_⟩
          | (refine codeW_cond rfl ?_; first | (refine condW_dec ?_ ?_ <;> intro _ <;> try (exfalso; omega)) | refine condW_not ?_ | (refine condW_bool ?_ ?_ <;> intro _ <;> try (exfalso; omega)))
          | (refine facW_intro ?_; intro _)
          | refine Or.inl ?_
          | ((conv => whnf); first | (refine condW_dec ?_ ?_ <;> intro _ <;> try (exfalso; omega)) | refine condW_not ?_ | (refine condW_bool ?_ ?_ <;> intro _ <;> try (exfalso; omega)) | (refine nbC_t (fun _ => ?_) ?_) | (refine nbC_f ?_ (fun _ => ?_)))
          | refine And.intro (by first | omega | (simp only [Int.toNat_natCast] at *; omega) | (simp only [Nat.reduceAdd, Int.cast_ofNat_Int, true_and, and_true]; omega)  | (simp only [cx, view, Nat.reduceAdd, Int.toNat_natCast]; omega) | kernel_rfl) ?_
          | refine RegW.run ?_
          | refine ⟨_, c1, ?_⟩
          | refine ⟨_, ih.args ⟨Dle.refl _ _, hsl _ _ hn2 (fun _ _ => rfl), trivial⟩, ?_⟩
          | fail
        all_goals first
          | (exfalso; omega)
          | (refine Dle.agg (X := (cx Tryz.prog mixed tyT_ok E)) ⟨Dle.refl _ _, Dle.refl _ _, Dle.refl _ _, Dle.refl _ _, row_set E v.items y m _ _ p1 rfl (fun i j hi hj => ?_), Dle.refl _ _, trivial⟩
             show rowSet (rowV v.items) (0 + (m : Int).toNat) 0 [i64 y.kind, dB y.b, i64 y.i, dS y.text, .rc (.vals y.items), encStrs y.keys] i j = _
             rw [set_cell _ _ _ _ _ hj, show 0 + (m : Int).toNat = m by omega])
          | trace_state
end
end cr
end Go.Proofs.YtjbgafbijamckaaGreatDoor
