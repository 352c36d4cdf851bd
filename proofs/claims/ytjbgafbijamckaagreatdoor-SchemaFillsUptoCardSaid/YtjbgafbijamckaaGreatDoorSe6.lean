/-
  The reference's put: a step by a number; the whole.
-/
import Derived.Test.YtjbgafbijamckaaGreatDoorSe4
namespace Go.Proofs.YtjbgafbijamckaaGreatDoor
open Go.RowKit
set_option linter.unusedVariables false
set_option linter.unusedSimpArgs false
namespace se
open cr
section
variable (E : Env)
set_option maxRecDepth 100000
set_option maxHeartbeats 8000000 in
/-- A step by a number. -/
theorem put_idx (p : ByteArray) (t : List ByteArray) (v x : Vu) (hp0 : partOk false p = true) (hk : keyOkB p = false) (hi : indexB p = true) (h97 : (bAt p 0).toNat < 97) (hf : faultE v = 0) (hw : v.wt ≤ 100000000000)
    (ih0 : ∀ v : Vu, faultE v = 0 → v.wt ≤ 100000000000 → Sp (cx Tryz.prog mixed tyT_ok E) 19 [encV v, encStrs t, encV x] (.tup [encV (setS (t.map stepOf) v x).1, i64 (setS (t.map stepOf) v x).2])) :
    Sp (cx Tryz.prog mixed tyT_ok E) 19 [encV v, encStrs (p :: t), encV x] (.tup [encV (setS ((p :: t).map stepOf) v x).1, i64 (setS ((p :: t).map stepOf) v x).2]) := by
  have hkw := keys_le_wt v
  have hiw : v.items.length ≤ v.wt := by have := wtL_le_wt v; have := len_le_wtL v.items; omega
  have k1 := cloneV_l E 27 v.items (by omega)
  have k2 := cloneK_l E 30 v.keys (by omega)
  have hl0 : (p :: t).length = t.length + 1 := rfl
  have hsl : ∀ (n : Nat) (g : Nat → Nat → DD), n = t.length → (∀ i j, g i j = dS ((p :: t).getD (i + 1) ⟨#[]⟩)) → Dle (cx Tryz.prog mixed tyT_ok E) (.sl 1 16 n g) (encStrs t) := fun n g hn hg => Dle.sl (X := (cx Tryz.prog mixed tyT_ok E)) hn (fun i j _ _ => Dle.of_eq (hg i j))
  have hn2 : ((p :: t).length : Int).toNat - 1 = t.length := by
    show ((t.length + 1 : Nat) : Int).toNat - 1 = t.length
    omega
  obtain ⟨hsz, _⟩ := part_cases hp0
  have hsz0 : 0 < ((p :: t).getD (Int.toNat 0) ⟨#[]⟩).size := hsz
  have hpe : ¬ p = ⟨#[]⟩ := fun e => by rw [e] at hsz; exact absurd hsz (by decide)
  have h970 : (bAt ((p :: t).getD (Int.toNat 0) ⟨#[]⟩) (Int.toNat 0)).toNat < 97 := h97
  obtain ⟨hd, h4⟩ := idx_digs hi
  have hat := atoi_sp E _ hd hsz h4
  rw [List.map_cons, step_idx hk hi]
  by_cases hkd : v.kind = 0 ∨ v.kind = 5
  · obtain ⟨y, e, hR⟩ : ∃ y e, setS (t.map stepOf) (v.items.getD (numN p) .zero) x = (y, e) := ⟨_, _, rfl⟩
    rw [set_idx hf hkd hR]
    have hold : faultE (v.items.getD (numN p) .zero) = 0 ∧ (v.items.getD (numN p) .zero).wt ≤ 100000000000 := by
      rcases Nat.lt_or_ge (numN p) v.items.length with h | h
      · exact ⟨fault_mem hf h, by have := wt_item v (numN p) h; omega⟩
      · rw [List.getD_eq_getElem?_getD, List.getElem?_eq_none h]
        exact ⟨fault_empty 0 (.inl rfl), by decide⟩
    have ih := ih0 _ hold.1 hold.2
    rw [hR] at ih
    clear hR
    have r1 : ∀ w : Vu, w.kind = 5 → numN p < w.items.length → stepR w p = numN p := fun w h5 hl => by
      unfold stepR
      rw [if_neg (by omega)]
      exact if_pos ⟨h5, by omega⟩
    generalize numN p = n at *
    by_cases hr : v.items.length < n
    · rw [if_pos hr]
      refine Sp.body Tryz.func19 (by kernel_rfl) rfl (by kernel_rfl) (by kernel_rfl) (by kernel_rfl) ?_
      repeat' first
        | refine Or.inr ⟨_, _, _, k1, by kernel_rfl, (by repeat' first | exact trivial | exact rfl | kernel_rfl | exact Dle.of_eq rfl | exact MLe.of_eq rfl | exact Dle.i (by omega) | exact Dle.i (by simp only [Int.toNat_natCast] at *; omega) | exact Dle.nil | exact Dle.rc Dle.nil | exact Option.some_ne_none _ | exact Or.inl rfl | exact Or.inr trivial | omega | (simp only [Int.toNat_natCast] at *; omega) | (intro _ _ _ _; exact Dle.of_eq rfl) | refine And.intro ?_ ?_), ?_⟩
        | refine Or.inr ⟨_, _, _, k2, by kernel_rfl, (by repeat' first | exact trivial | exact rfl | kernel_rfl | exact Dle.of_eq rfl | exact MLe.of_eq rfl | exact Dle.i (by omega) | exact Dle.i (by simp only [Int.toNat_natCast] at *; omega) | exact Dle.nil | exact Dle.rc Dle.nil | exact Option.some_ne_none _ | exact Or.inl rfl | exact Or.inr trivial | omega | (simp only [Int.toNat_natCast] at *; omega) | (intro _ _ _ _; exact Dle.of_eq rfl) | refine And.intro ?_ ?_), ?_⟩
        | (refine codeW_cond rfl ?_; first | (refine condW_dec ?_ ?_ <;> intro _ <;> try (exfalso; omega)) | refine condW_not ?_ | (refine condW_bool ?_ ?_ <;> intro _ <;> try (exfalso; omega)))
        | (refine facW_intro ?_; intro _)
        | refine Or.inl ?_
        | ((conv => whnf); first | (refine condW_dec ?_ ?_ <;> intro _ <;> try (exfalso; omega)) | refine condW_not ?_ | (refine condW_bool ?_ ?_ <;> intro _ <;> try (exfalso; omega)) | (refine nbC_t (fun _ => ?_) ?_) | (refine nbC_f ?_ (fun _ => ?_)))
        | refine And.intro (by first | omega | (simp only [Int.toNat_natCast] at *; omega) | (simp only [Nat.reduceAdd, Int.cast_ofNat_Int, true_and, and_true]; omega)  | (simp only [cx, view, Nat.reduceAdd, Int.toNat_natCast]; omega) | kernel_rfl) ?_
        | refine RegW.run ?_
        | refine ⟨_, hat, ?_⟩
        | fail
      all_goals first
        | (exfalso; omega)
        | exact Dle.tup (X := (cx Tryz.prog mixed tyT_ok E)) ⟨zeroC E, Dle.refl _ _, trivial⟩
        | trace_state
    · rw [if_neg hr]
      by_cases hq : n = v.items.length
      · rw [if_pos hq]
        have l2 := insL_len v.items n .zero (by omega)
        have hz : (insL v.items n .zero).getD n .zero = .zero := by rw [insL_at _ _ _ _ _ (by omega), if_neg (Nat.lt_irrefl _), if_pos rfl]
        have hap : v.items ++ [y] = (insL v.items n .zero).set n y := by
          rw [ins_set _ _ _ _ (by omega)]
          unfold insL
          rw [hq, List.take_length, List.drop_length]
        rw [hap]
        have hrow : ∀ i j, i < v.items.length + 1 → j < 6 → Dle (cx Tryz.prog mixed tyT_ok E) (if i < v.items.length then rowV v.items i j else ([i64 0, dB false, i64 0, dS ⟨#[]⟩, .v (.slice none 0 0), .v (.slice none 0 0)] : List DD).getD ((i - v.items.length) * 6 + j) .opq) (rowV (insL v.items n .zero) i j) := fun i j hi hj => by
          show Dle (cx Tryz.prog mixed tyT_ok E) _ (((insL v.items n .zero).getD i .zero).cell j)
          rw [insL_at _ _ _ _ _ (by omega), hq]
          by_cases h1 : i < v.items.length
          · rw [if_pos h1, if_pos h1]
            exact Dle.refl _ _
          · rw [if_neg h1, if_neg h1, if_pos (by omega), show (i - v.items.length) * 6 + j = j by rw [show i - v.items.length = 0 by omega]; omega]
            match j, hj with
            | 0, _ => exact Dle.refl _ _
            | 1, _ => exact Dle.refl _ _
            | 2, _ => exact Dle.refl _ _
            | 3, _ => exact Dle.refl _ _
            | 4, _ => exact Dle.rc (X := (cx Tryz.prog mixed tyT_ok E)) (Dle.nil (X := (cx Tryz.prog mixed tyT_ok E)))
            | 5, _ => exact Dle.nil (X := (cx Tryz.prog mixed tyT_ok E))
        have s3 := ins.stepL_sp E 98 30 (by decide) (by decide) (by decide) (.mk 5 v.b v.i v.text (insL v.items n .zero) v.keys) (rowV (insL v.items n .zero)) p hp0 (by show v.keys.length ≤ _; omega)
        have s4 := ins.stepL_sp E 98 30 (by decide) (by decide) (by decide) (.mk v.kind v.b v.i v.text (insL v.items n .zero) v.keys) (rowV (insL v.items n .zero)) p hp0 (by show v.keys.length ≤ _; omega)
        have l3 : (Vu.mk 5 v.b v.i v.text (insL v.items n .zero) v.keys).items.length = v.items.length + 1 := l2
        have l4 : (Vu.mk v.kind v.b v.i v.text (insL v.items n .zero) v.keys).items.length = v.items.length + 1 := l2
        have l5 : (Vu.mk 5 v.b v.i v.text (insL v.items n .zero) v.keys).keys.length = v.keys.length := rfl
        have l6 : (Vu.mk v.kind v.b v.i v.text (insL v.items n .zero) v.keys).keys.length = v.keys.length := rfl
        rw [r1 _ rfl (by omega), l3] at s3
        have hgz : v.items.getD n .zero = .zero := by rw [List.getD_eq_getElem?_getD, List.getElem?_eq_none (by omega)]; rfl
        rw [hgz] at ih
        have hld : Dle (cx Tryz.prog mixed tyT_ok E) (encV ((insL v.items n .zero).getD (0 + (n : Int).toNat) .zero)) (encV .zero) := Dle.of_eq (by rw [show 0 + (n : Int).toNat = n by omega, hz])
        by_cases h0 : v.kind = 0
        · by_cases he : e = 0
          · subst he
            rw [if_pos rfl]
            refine Sp.body Tryz.func19 (by kernel_rfl) rfl (by kernel_rfl) (by kernel_rfl) (by kernel_rfl) ?_
            repeat' first
              | refine Or.inr ⟨_, _, _, k1, by kernel_rfl, (by repeat' first | exact trivial | exact rfl | kernel_rfl | exact Dle.of_eq rfl | exact MLe.of_eq rfl | exact Dle.i (by omega) | exact Dle.i (by simp only [Int.toNat_natCast] at *; omega) | exact Dle.nil | exact Dle.rc Dle.nil | exact Option.some_ne_none _ | exact Or.inl rfl | exact Or.inr trivial | omega | (simp only [Int.toNat_natCast] at *; omega) | (intro _ _ _ _; exact Dle.of_eq rfl) | refine And.intro ?_ ?_), ?_⟩
              | refine Or.inr ⟨_, _, _, k2, by kernel_rfl, (by repeat' first | exact trivial | exact rfl | kernel_rfl | exact Dle.of_eq rfl | exact MLe.of_eq rfl | exact Dle.i (by omega) | exact Dle.i (by simp only [Int.toNat_natCast] at *; omega) | exact Dle.nil | exact Dle.rc Dle.nil | exact Option.some_ne_none _ | exact Or.inl rfl | exact Or.inr trivial | omega | (simp only [Int.toNat_natCast] at *; omega) | (intro _ _ _ _; exact Dle.of_eq rfl) | refine And.intro ?_ ?_), ?_⟩
              | refine Or.inr ⟨_, _, _, s3, by kernel_rfl, (by repeat' first | (exact hrow) | exact trivial | exact rfl | kernel_rfl | exact Dle.of_eq rfl | exact MLe.of_eq rfl | exact Dle.i (by omega) | exact Dle.i (by simp only [Int.toNat_natCast] at *; omega) | exact Dle.nil | exact Dle.rc Dle.nil | exact Option.some_ne_none _ | exact Or.inl rfl | exact Or.inr trivial | omega | (simp only [Int.toNat_natCast] at *; omega) | (intro _ _ _ _; exact Dle.of_eq rfl) | refine And.intro ?_ ?_), ?_⟩
              | (refine codeW_cond rfl ?_; first | (refine condW_dec ?_ ?_ <;> intro _ <;> try (exfalso; omega)) | refine condW_not ?_ | (refine condW_bool ?_ ?_ <;> intro _ <;> try (exfalso; omega)))
              | (refine facW_intro ?_; intro _)
              | refine Or.inl ?_
              | ((conv => whnf); first | (refine condW_dec ?_ ?_ <;> intro _ <;> try (exfalso; omega)) | refine condW_not ?_ | (refine condW_bool ?_ ?_ <;> intro _ <;> try (exfalso; omega)) | (refine nbC_t (fun _ => ?_) ?_) | (refine nbC_f ?_ (fun _ => ?_)))
              | refine And.intro (by first | omega | (simp only [Int.toNat_natCast] at *; omega) | (simp only [Nat.reduceAdd, Int.cast_ofNat_Int, true_and, and_true]; omega)  | (simp only [cx, view, Nat.reduceAdd, Int.toNat_natCast]; omega) | kernel_rfl) ?_
              | refine RegW.run ?_
              | refine ⟨_, hat, ?_⟩
              | refine ⟨_, ih.args ⟨hld, hsl _ _ hn2 (fun _ _ => rfl), Dle.refl _ _, trivial⟩, ?_⟩
              | fail
            all_goals first
              | (exfalso; omega)
              | (refine Dle.tup (X := (cx Tryz.prog mixed tyT_ok E)) ⟨Dle.agg (X := (cx Tryz.prog mixed tyT_ok E)) ⟨Dle.refl _ _, Dle.refl _ _, Dle.refl _ _, Dle.refl _ _, row_set E (insL v.items n .zero) y n _ _ (by omega) l2.symm (fun i j hi hj => ?_), Dle.refl _ _, trivial⟩, Dle.refl _ _, trivial⟩
                 show rowSet (rowV (insL v.items n .zero)) (0 + (n : Int).toNat) 0 [i64 y.kind, dB y.b, i64 y.i, dS y.text, .rc (.vals y.items), encStrs y.keys] i j = _
                 rw [set_cell _ _ _ _ _ hj, show 0 + (n : Int).toNat = n by omega])
              | trace_state
          · rw [if_neg he]
            refine Sp.body Tryz.func19 (by kernel_rfl) rfl (by kernel_rfl) (by kernel_rfl) (by kernel_rfl) ?_
            repeat' first
              | refine Or.inr ⟨_, _, _, k1, by kernel_rfl, (by repeat' first | exact trivial | exact rfl | kernel_rfl | exact Dle.of_eq rfl | exact MLe.of_eq rfl | exact Dle.i (by omega) | exact Dle.i (by simp only [Int.toNat_natCast] at *; omega) | exact Dle.nil | exact Dle.rc Dle.nil | exact Option.some_ne_none _ | exact Or.inl rfl | exact Or.inr trivial | omega | (simp only [Int.toNat_natCast] at *; omega) | (intro _ _ _ _; exact Dle.of_eq rfl) | refine And.intro ?_ ?_), ?_⟩
              | refine Or.inr ⟨_, _, _, k2, by kernel_rfl, (by repeat' first | exact trivial | exact rfl | kernel_rfl | exact Dle.of_eq rfl | exact MLe.of_eq rfl | exact Dle.i (by omega) | exact Dle.i (by simp only [Int.toNat_natCast] at *; omega) | exact Dle.nil | exact Dle.rc Dle.nil | exact Option.some_ne_none _ | exact Or.inl rfl | exact Or.inr trivial | omega | (simp only [Int.toNat_natCast] at *; omega) | (intro _ _ _ _; exact Dle.of_eq rfl) | refine And.intro ?_ ?_), ?_⟩
              | refine Or.inr ⟨_, _, _, s3, by kernel_rfl, (by repeat' first | (exact hrow) | exact trivial | exact rfl | kernel_rfl | exact Dle.of_eq rfl | exact MLe.of_eq rfl | exact Dle.i (by omega) | exact Dle.i (by simp only [Int.toNat_natCast] at *; omega) | exact Dle.nil | exact Dle.rc Dle.nil | exact Option.some_ne_none _ | exact Or.inl rfl | exact Or.inr trivial | omega | (simp only [Int.toNat_natCast] at *; omega) | (intro _ _ _ _; exact Dle.of_eq rfl) | refine And.intro ?_ ?_), ?_⟩
              | (refine codeW_cond rfl ?_; first | (refine condW_dec ?_ ?_ <;> intro _ <;> try (exfalso; omega)) | refine condW_not ?_ | (refine condW_bool ?_ ?_ <;> intro _ <;> try (exfalso; omega)))
              | (refine facW_intro ?_; intro _)
              | refine Or.inl ?_
              | ((conv => whnf); first | (refine condW_dec ?_ ?_ <;> intro _ <;> try (exfalso; omega)) | refine condW_not ?_ | (refine condW_bool ?_ ?_ <;> intro _ <;> try (exfalso; omega)) | (refine nbC_t (fun _ => ?_) ?_) | (refine nbC_f ?_ (fun _ => ?_)))
              | refine And.intro (by first | omega | (simp only [Int.toNat_natCast] at *; omega) | (simp only [Nat.reduceAdd, Int.cast_ofNat_Int, true_and, and_true]; omega)  | (simp only [cx, view, Nat.reduceAdd, Int.toNat_natCast]; omega) | kernel_rfl) ?_
              | refine RegW.run ?_
              | refine ⟨_, hat, ?_⟩
              | refine ⟨_, ih.args ⟨hld, hsl _ _ hn2 (fun _ _ => rfl), Dle.refl _ _, trivial⟩, ?_⟩
              | fail
            all_goals first
              | (exfalso; omega)
              | exact Dle.tup (X := (cx Tryz.prog mixed tyT_ok E)) ⟨zeroC E, Dle.refl _ _, trivial⟩
              | trace_state
        · have h5 : v.kind = 5 := by omega
          rw [r1 (.mk v.kind v.b v.i v.text (insL v.items n .zero) v.keys) h5 (by omega), l4] at s4
          by_cases he : e = 0
          · subst he
            rw [if_pos rfl]
            refine Sp.body Tryz.func19 (by kernel_rfl) rfl (by kernel_rfl) (by kernel_rfl) (by kernel_rfl) ?_
            repeat' first
              | refine Or.inr ⟨_, _, _, k1, by kernel_rfl, (by repeat' first | exact trivial | exact rfl | kernel_rfl | exact Dle.of_eq rfl | exact MLe.of_eq rfl | exact Dle.i (by omega) | exact Dle.i (by simp only [Int.toNat_natCast] at *; omega) | exact Dle.nil | exact Dle.rc Dle.nil | exact Option.some_ne_none _ | exact Or.inl rfl | exact Or.inr trivial | omega | (simp only [Int.toNat_natCast] at *; omega) | (intro _ _ _ _; exact Dle.of_eq rfl) | refine And.intro ?_ ?_), ?_⟩
              | refine Or.inr ⟨_, _, _, k2, by kernel_rfl, (by repeat' first | exact trivial | exact rfl | kernel_rfl | exact Dle.of_eq rfl | exact MLe.of_eq rfl | exact Dle.i (by omega) | exact Dle.i (by simp only [Int.toNat_natCast] at *; omega) | exact Dle.nil | exact Dle.rc Dle.nil | exact Option.some_ne_none _ | exact Or.inl rfl | exact Or.inr trivial | omega | (simp only [Int.toNat_natCast] at *; omega) | (intro _ _ _ _; exact Dle.of_eq rfl) | refine And.intro ?_ ?_), ?_⟩
              | refine Or.inr ⟨_, _, _, s4, by kernel_rfl, (by repeat' first | (exact hrow) | exact trivial | exact rfl | kernel_rfl | exact Dle.of_eq rfl | exact MLe.of_eq rfl | exact Dle.i (by omega) | exact Dle.i (by simp only [Int.toNat_natCast] at *; omega) | exact Dle.nil | exact Dle.rc Dle.nil | exact Option.some_ne_none _ | exact Or.inl rfl | exact Or.inr trivial | omega | (simp only [Int.toNat_natCast] at *; omega) | (intro _ _ _ _; exact Dle.of_eq rfl) | refine And.intro ?_ ?_), ?_⟩
              | (refine codeW_cond rfl ?_; first | (refine condW_dec ?_ ?_ <;> intro _ <;> try (exfalso; omega)) | refine condW_not ?_ | (refine condW_bool ?_ ?_ <;> intro _ <;> try (exfalso; omega)))
              | (refine facW_intro ?_; intro _)
              | refine Or.inl ?_
              | ((conv => whnf); first | (refine condW_dec ?_ ?_ <;> intro _ <;> try (exfalso; omega)) | refine condW_not ?_ | (refine condW_bool ?_ ?_ <;> intro _ <;> try (exfalso; omega)) | (refine nbC_t (fun _ => ?_) ?_) | (refine nbC_f ?_ (fun _ => ?_)))
              | refine And.intro (by first | omega | (simp only [Int.toNat_natCast] at *; omega) | (simp only [Nat.reduceAdd, Int.cast_ofNat_Int, true_and, and_true]; omega)  | (simp only [cx, view, Nat.reduceAdd, Int.toNat_natCast]; omega) | kernel_rfl) ?_
              | refine RegW.run ?_
              | refine ⟨_, hat, ?_⟩
              | refine ⟨_, ih.args ⟨hld, hsl _ _ hn2 (fun _ _ => rfl), Dle.refl _ _, trivial⟩, ?_⟩
              | fail
            all_goals first
              | (exfalso; omega)
              | (refine Dle.tup (X := (cx Tryz.prog mixed tyT_ok E)) ⟨Dle.agg (X := (cx Tryz.prog mixed tyT_ok E)) ⟨Dle.i h5, Dle.refl _ _, Dle.refl _ _, Dle.refl _ _, row_set E (insL v.items n .zero) y n _ _ (by omega) l2.symm (fun i j hi hj => ?_), Dle.refl _ _, trivial⟩, Dle.refl _ _, trivial⟩
                 show rowSet (rowV (insL v.items n .zero)) (0 + (n : Int).toNat) 0 [i64 y.kind, dB y.b, i64 y.i, dS y.text, .rc (.vals y.items), encStrs y.keys] i j = _
                 rw [set_cell _ _ _ _ _ hj, show 0 + (n : Int).toNat = n by omega])
              | trace_state
          · rw [if_neg he]
            refine Sp.body Tryz.func19 (by kernel_rfl) rfl (by kernel_rfl) (by kernel_rfl) (by kernel_rfl) ?_
            repeat' first
              | refine Or.inr ⟨_, _, _, k1, by kernel_rfl, (by repeat' first | exact trivial | exact rfl | kernel_rfl | exact Dle.of_eq rfl | exact MLe.of_eq rfl | exact Dle.i (by omega) | exact Dle.i (by simp only [Int.toNat_natCast] at *; omega) | exact Dle.nil | exact Dle.rc Dle.nil | exact Option.some_ne_none _ | exact Or.inl rfl | exact Or.inr trivial | omega | (simp only [Int.toNat_natCast] at *; omega) | (intro _ _ _ _; exact Dle.of_eq rfl) | refine And.intro ?_ ?_), ?_⟩
              | refine Or.inr ⟨_, _, _, k2, by kernel_rfl, (by repeat' first | exact trivial | exact rfl | kernel_rfl | exact Dle.of_eq rfl | exact MLe.of_eq rfl | exact Dle.i (by omega) | exact Dle.i (by simp only [Int.toNat_natCast] at *; omega) | exact Dle.nil | exact Dle.rc Dle.nil | exact Option.some_ne_none _ | exact Or.inl rfl | exact Or.inr trivial | omega | (simp only [Int.toNat_natCast] at *; omega) | (intro _ _ _ _; exact Dle.of_eq rfl) | refine And.intro ?_ ?_), ?_⟩
              | refine Or.inr ⟨_, _, _, s4, by kernel_rfl, (by repeat' first | (exact hrow) | exact trivial | exact rfl | kernel_rfl | exact Dle.of_eq rfl | exact MLe.of_eq rfl | exact Dle.i (by omega) | exact Dle.i (by simp only [Int.toNat_natCast] at *; omega) | exact Dle.nil | exact Dle.rc Dle.nil | exact Option.some_ne_none _ | exact Or.inl rfl | exact Or.inr trivial | omega | (simp only [Int.toNat_natCast] at *; omega) | (intro _ _ _ _; exact Dle.of_eq rfl) | refine And.intro ?_ ?_), ?_⟩
              | (refine codeW_cond rfl ?_; first | (refine condW_dec ?_ ?_ <;> intro _ <;> try (exfalso; omega)) | refine condW_not ?_ | (refine condW_bool ?_ ?_ <;> intro _ <;> try (exfalso; omega)))
              | (refine facW_intro ?_; intro _)
              | refine Or.inl ?_
              | ((conv => whnf); first | (refine condW_dec ?_ ?_ <;> intro _ <;> try (exfalso; omega)) | refine condW_not ?_ | (refine condW_bool ?_ ?_ <;> intro _ <;> try (exfalso; omega)) | (refine nbC_t (fun _ => ?_) ?_) | (refine nbC_f ?_ (fun _ => ?_)))
              | refine And.intro (by first | omega | (simp only [Int.toNat_natCast] at *; omega) | (simp only [Nat.reduceAdd, Int.cast_ofNat_Int, true_and, and_true]; omega)  | (simp only [cx, view, Nat.reduceAdd, Int.toNat_natCast]; omega) | kernel_rfl) ?_
              | refine RegW.run ?_
              | refine ⟨_, hat, ?_⟩
              | refine ⟨_, ih.args ⟨hld, hsl _ _ hn2 (fun _ _ => rfl), Dle.refl _ _, trivial⟩, ?_⟩
              | fail
            all_goals first
              | (exfalso; omega)
              | exact Dle.tup (X := (cx Tryz.prog mixed tyT_ok E)) ⟨zeroC E, Dle.refl _ _, trivial⟩
              | trace_state
      · rw [if_neg hq]
        have h5 : v.kind = 5 := by
          refine hkd.resolve_left fun h0 => ?_
          have := fault_nil v hf h0
          rw [this] at hq hr
          exact hq (by have : ¬ 0 < n := hr; show n = 0; omega)
        have s2 := ins.stepL_sp E 27 30 (by decide) (by decide) (by decide) v (rowV v.items) p hp0 (by omega)
        rw [r1 v h5 (by omega)] at s2
        have hld : Dle (cx Tryz.prog mixed tyT_ok E) (encV (v.items.getD (0 + (n : Int).toNat) .zero)) (encV (v.items.getD n .zero)) := Dle.of_eq (by rw [show 0 + (n : Int).toNat = n by omega])
        by_cases he : e = 0
        · subst he
          rw [if_pos rfl]
          refine Sp.body Tryz.func19 (by kernel_rfl) rfl (by kernel_rfl) (by kernel_rfl) (by kernel_rfl) ?_
          repeat' first
            | refine Or.inr ⟨_, _, _, k1, by kernel_rfl, (by repeat' first | exact trivial | exact rfl | kernel_rfl | exact Dle.of_eq rfl | exact MLe.of_eq rfl | exact Dle.i (by omega) | exact Dle.i (by simp only [Int.toNat_natCast] at *; omega) | exact Dle.nil | exact Dle.rc Dle.nil | exact Option.some_ne_none _ | exact Or.inl rfl | exact Or.inr trivial | omega | (simp only [Int.toNat_natCast] at *; omega) | (intro _ _ _ _; exact Dle.of_eq rfl) | refine And.intro ?_ ?_), ?_⟩
            | refine Or.inr ⟨_, _, _, k2, by kernel_rfl, (by repeat' first | exact trivial | exact rfl | kernel_rfl | exact Dle.of_eq rfl | exact MLe.of_eq rfl | exact Dle.i (by omega) | exact Dle.i (by simp only [Int.toNat_natCast] at *; omega) | exact Dle.nil | exact Dle.rc Dle.nil | exact Option.some_ne_none _ | exact Or.inl rfl | exact Or.inr trivial | omega | (simp only [Int.toNat_natCast] at *; omega) | (intro _ _ _ _; exact Dle.of_eq rfl) | refine And.intro ?_ ?_), ?_⟩
            | refine Or.inr ⟨_, _, _, s2, by kernel_rfl, (by repeat' first | exact trivial | exact rfl | kernel_rfl | exact Dle.of_eq rfl | exact MLe.of_eq rfl | exact Dle.i (by omega) | exact Dle.i (by simp only [Int.toNat_natCast] at *; omega) | exact Dle.nil | exact Dle.rc Dle.nil | exact Option.some_ne_none _ | exact Or.inl rfl | exact Or.inr trivial | omega | (simp only [Int.toNat_natCast] at *; omega) | (intro _ _ _ _; exact Dle.of_eq rfl) | refine And.intro ?_ ?_), ?_⟩
            | (refine codeW_cond rfl ?_; first | (refine condW_dec ?_ ?_ <;> intro _ <;> try (exfalso; omega)) | refine condW_not ?_ | (refine condW_bool ?_ ?_ <;> intro _ <;> try (exfalso; omega)))
            | (refine facW_intro ?_; intro _)
            | refine Or.inl ?_
            | ((conv => whnf); first | (refine condW_dec ?_ ?_ <;> intro _ <;> try (exfalso; omega)) | refine condW_not ?_ | (refine condW_bool ?_ ?_ <;> intro _ <;> try (exfalso; omega)) | (refine nbC_t (fun _ => ?_) ?_) | (refine nbC_f ?_ (fun _ => ?_)))
            | refine And.intro (by first | omega | (simp only [Int.toNat_natCast] at *; omega) | (simp only [Nat.reduceAdd, Int.cast_ofNat_Int, true_and, and_true]; omega)  | (simp only [cx, view, Nat.reduceAdd, Int.toNat_natCast]; omega) | kernel_rfl) ?_
            | refine RegW.run ?_
            | refine ⟨_, hat, ?_⟩
            | refine ⟨_, ih.args ⟨hld, hsl _ _ hn2 (fun _ _ => rfl), Dle.refl _ _, trivial⟩, ?_⟩
            | fail
          all_goals first
            | (exfalso; omega)
            | (refine Dle.tup (X := (cx Tryz.prog mixed tyT_ok E)) ⟨Dle.agg (X := (cx Tryz.prog mixed tyT_ok E)) ⟨Dle.i h5, Dle.refl _ _, Dle.refl _ _, Dle.refl _ _, row_set E v.items y n _ _ (by omega) rfl (fun i j hi hj => ?_), Dle.refl _ _, trivial⟩, Dle.refl _ _, trivial⟩
               show rowSet (rowV v.items) (0 + (n : Int).toNat) 0 [i64 y.kind, dB y.b, i64 y.i, dS y.text, .rc (.vals y.items), encStrs y.keys] i j = _
               rw [set_cell _ _ _ _ _ hj, show 0 + (n : Int).toNat = n by omega])
            | trace_state
        · rw [if_neg he]
          refine Sp.body Tryz.func19 (by kernel_rfl) rfl (by kernel_rfl) (by kernel_rfl) (by kernel_rfl) ?_
          repeat' first
            | refine Or.inr ⟨_, _, _, k1, by kernel_rfl, (by repeat' first | exact trivial | exact rfl | kernel_rfl | exact Dle.of_eq rfl | exact MLe.of_eq rfl | exact Dle.i (by omega) | exact Dle.i (by simp only [Int.toNat_natCast] at *; omega) | exact Dle.nil | exact Dle.rc Dle.nil | exact Option.some_ne_none _ | exact Or.inl rfl | exact Or.inr trivial | omega | (simp only [Int.toNat_natCast] at *; omega) | (intro _ _ _ _; exact Dle.of_eq rfl) | refine And.intro ?_ ?_), ?_⟩
            | refine Or.inr ⟨_, _, _, k2, by kernel_rfl, (by repeat' first | exact trivial | exact rfl | kernel_rfl | exact Dle.of_eq rfl | exact MLe.of_eq rfl | exact Dle.i (by omega) | exact Dle.i (by simp only [Int.toNat_natCast] at *; omega) | exact Dle.nil | exact Dle.rc Dle.nil | exact Option.some_ne_none _ | exact Or.inl rfl | exact Or.inr trivial | omega | (simp only [Int.toNat_natCast] at *; omega) | (intro _ _ _ _; exact Dle.of_eq rfl) | refine And.intro ?_ ?_), ?_⟩
            | refine Or.inr ⟨_, _, _, s2, by kernel_rfl, (by repeat' first | exact trivial | exact rfl | kernel_rfl | exact Dle.of_eq rfl | exact MLe.of_eq rfl | exact Dle.i (by omega) | exact Dle.i (by simp only [Int.toNat_natCast] at *; omega) | exact Dle.nil | exact Dle.rc Dle.nil | exact Option.some_ne_none _ | exact Or.inl rfl | exact Or.inr trivial | omega | (simp only [Int.toNat_natCast] at *; omega) | (intro _ _ _ _; exact Dle.of_eq rfl) | refine And.intro ?_ ?_), ?_⟩
            | (refine codeW_cond rfl ?_; first | (refine condW_dec ?_ ?_ <;> intro _ <;> try (exfalso; omega)) | refine condW_not ?_ | (refine condW_bool ?_ ?_ <;> intro _ <;> try (exfalso; omega)))
            | (refine facW_intro ?_; intro _)
            | refine Or.inl ?_
            | ((conv => whnf); first | (refine condW_dec ?_ ?_ <;> intro _ <;> try (exfalso; omega)) | refine condW_not ?_ | (refine condW_bool ?_ ?_ <;> intro _ <;> try (exfalso; omega)) | (refine nbC_t (fun _ => ?_) ?_) | (refine nbC_f ?_ (fun _ => ?_)))
            | refine And.intro (by first | omega | (simp only [Int.toNat_natCast] at *; omega) | (simp only [Nat.reduceAdd, Int.cast_ofNat_Int, true_and, and_true]; omega)  | (simp only [cx, view, Nat.reduceAdd, Int.toNat_natCast]; omega) | kernel_rfl) ?_
            | refine RegW.run ?_
            | refine ⟨_, hat, ?_⟩
            | refine ⟨_, ih.args ⟨hld, hsl _ _ hn2 (fun _ _ => rfl), Dle.refl _ _, trivial⟩, ?_⟩
            | fail
          all_goals first
            | (exfalso; omega)
            | exact Dle.tup (X := (cx Tryz.prog mixed tyT_ok E)) ⟨zeroC E, Dle.refl _ _, trivial⟩
            | trace_state
  · have hso : setS (⟨⟨#[]⟩, numN p, false⟩ :: t.map stepOf) v x = (.zero, 10) := set_no (by omega) (by show _ ≠ (5 : Int); omega)
    rw [hso]
    refine Sp.body Tryz.func19 (by kernel_rfl) rfl (by kernel_rfl) (by kernel_rfl) (by kernel_rfl) ?_
    repeat' first
      | refine Or.inr ⟨_, _, _, k1, by kernel_rfl, (by repeat' first | exact trivial | exact rfl | kernel_rfl | exact Dle.of_eq rfl | exact MLe.of_eq rfl | exact Dle.i (by omega) | exact Dle.i (by simp only [Int.toNat_natCast] at *; omega) | exact Dle.nil | exact Dle.rc Dle.nil | exact Option.some_ne_none _ | exact Or.inl rfl | exact Or.inr trivial | omega | (simp only [Int.toNat_natCast] at *; omega) | (intro _ _ _ _; exact Dle.of_eq rfl) | refine And.intro ?_ ?_), ?_⟩
      | refine Or.inr ⟨_, _, _, k2, by kernel_rfl, (by repeat' first | exact trivial | exact rfl | kernel_rfl | exact Dle.of_eq rfl | exact MLe.of_eq rfl | exact Dle.i (by omega) | exact Dle.i (by simp only [Int.toNat_natCast] at *; omega) | exact Dle.nil | exact Dle.rc Dle.nil | exact Option.some_ne_none _ | exact Or.inl rfl | exact Or.inr trivial | omega | (simp only [Int.toNat_natCast] at *; omega) | (intro _ _ _ _; exact Dle.of_eq rfl) | refine And.intro ?_ ?_), ?_⟩
      | (refine codeW_cond rfl ?_; first | (refine condW_dec ?_ ?_ <;> intro _ <;> try (exfalso; omega)) | refine condW_not ?_ | (refine condW_bool ?_ ?_ <;> intro _ <;> try (exfalso; omega)))
      | (refine facW_intro ?_; intro _)
      | refine Or.inl ?_
      | ((conv => whnf); first | (refine condW_dec ?_ ?_ <;> intro _ <;> try (exfalso; omega)) | refine condW_not ?_ | (refine condW_bool ?_ ?_ <;> intro _ <;> try (exfalso; omega)) | (refine nbC_t (fun _ => ?_) ?_) | (refine nbC_f ?_ (fun _ => ?_)))
      | refine And.intro (by first | omega | (simp only [Int.toNat_natCast] at *; omega) | (simp only [Nat.reduceAdd, Int.cast_ofNat_Int, true_and, and_true]; omega)  | (simp only [cx, view, Nat.reduceAdd, Int.toNat_natCast]; omega) | kernel_rfl) ?_
      | refine RegW.run ?_
      | fail
    all_goals first
      | (exfalso; omega)
      | exact Dle.tup (X := (cx Tryz.prog mixed tyT_ok E)) ⟨zeroC E, Dle.refl _ _, trivial⟩
      | trace_state
theorem put_spR : ∀ (P : List ByteArray) (v x : Vu), (∀ p ∈ P, partOk false p = true) → faultE v = 0 → v.wt ≤ 100000000000 → Sp (cx Tryz.prog mixed tyT_ok E) 19 [encV v, encStrs P, encV x] (.tup [encV (setS (P.map stepOf) v x).1, i64 (setS (P.map stepOf) v x).2])
  | [], v, x, _, _, _ => by
    have hl0 : ([] : List ByteArray).length = 0 := rfl
    refine Sp.body Tryz.func19 (by kernel_rfl) rfl (by kernel_rfl) (by kernel_rfl) (by kernel_rfl) ?_
    repeat' first
      | (refine codeW_cond rfl ?_; first | (refine condW_dec ?_ ?_ <;> intro _ <;> try (exfalso; omega)) | refine condW_not ?_ | (refine condW_bool ?_ ?_ <;> intro _ <;> try (exfalso; omega)))
      | (refine facW_intro ?_; intro _)
      | refine Or.inl ?_
      | ((conv => whnf); first | (refine condW_dec ?_ ?_ <;> intro _ <;> try (exfalso; omega)) | refine condW_not ?_ | (refine condW_bool ?_ ?_ <;> intro _ <;> try (exfalso; omega)) | (refine nbC_t (fun _ => ?_) ?_) | (refine nbC_f ?_ (fun _ => ?_)))
      | refine And.intro (by first | omega | (simp only [Int.toNat_natCast] at *; omega) | (simp only [Nat.reduceAdd, Int.cast_ofNat_Int, true_and, and_true]; omega)  | (simp only [cx, view, Nat.reduceAdd, Int.toNat_natCast]; omega) | kernel_rfl) ?_
      | refine RegW.run ?_
      | fail
    all_goals first
      | (exfalso; rename_i h; exact h rfl)
      | exact Dle.refl _ _
      | trace_state
  | p :: t, v, x, hs, hf, hw => by
    have hp0 := hs p List.mem_cons_self
    have ih0 := fun w h1 h2 => put_spR t w x (fun q hq => hs q (List.mem_cons_of_mem _ hq)) h1 h2
    rcases (part_cases hp0).2 with ⟨hk, h97⟩ | ⟨hk, hi, h97⟩
    · exact put_name E p t v x hp0 hk h97 hf hw ih0
    · exact put_idx E p t v x hp0 hk hi h97 hf hw ih0
end
end se
end Go.Proofs.YtjbgafbijamckaaGreatDoor
