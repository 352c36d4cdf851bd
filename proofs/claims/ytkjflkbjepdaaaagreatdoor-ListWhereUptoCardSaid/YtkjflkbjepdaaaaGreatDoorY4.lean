/-
  Conditions that hold: the reference's holdsIn and HoldsOf; the law.
-/
import Derived.Test.YtkjflkbjepdaaaaGreatDoorY3
namespace Go.Proofs.YtkjflkbjepdaaaaGreatDoor
open Go.RowKit
set_option linter.unusedVariables false
set_option linter.unusedSimpArgs false
theorem cond13 {c : Cd} (h : condH c = 0) (h13 : c.op = 13) : c.value.kind = 3 := by
  unfold condH at h
  by_cases hF : condF c.op c.kids.length
  · rw [if_pos hF] at h; cases h
  · rw [if_neg hF, if_neg (by omega)] at h
    unfold condR wrongB at h
    grind
theorem there_eq {y : Vu} (h : 0 ≤ y.kind ∧ y.kind ≤ 8 ∧ (y.b = true → y.kind = 1) ∧ (0 < y.items.length → y.kind = 5 ∨ y.kind = 6) ∧ y.text.size ≤ 5000 ∧ (y.text ≠ ⟨#[]⟩ → y.kind = 3 ∨ y.kind = 7 ∨ y.kind = 8)) :
    thereB y = true ↔ y.kind = 8 ∨ y.b = true ∨ (y.kind = 2 ∧ ¬ y.i = 0) ∨ y.kind = 4 ∨ ((y.kind = 3 ∨ y.kind = 7) ∧ ¬ y.text = ⟨#[]⟩) ∨ 0 < y.items.length := by
  unfold thereB
  grind
section
variable (E : Env)
set_option maxRecDepth 100000
set_option maxHeartbeats 8000000 in
theorem refHolds_sp (hML : ∀ w, E.G w → ML w) (v : Vu) (hv : itemE v = 0) : ∀ (N : Nat) (c : Cd), SizeOf.sizeOf c < N → c.wt ≤ 100000000 → condE c = 0 → Sp (cx Tryz.prog mixed tyT_ok E) 28 [encC c, encV v] (dB (hold v c))
  | 0, c, h, _, _ => by omega
  | N + 1, c, h, hw, hc => by
    have hwe := c.wt_eq
    rw [condE_eq] at hc
    have hcc : condH c = 0 ∧ condL c.kids = 0 := by
      by_cases h0 : condH c = 0
      · rw [if_pos h0] at hc; exact ⟨h0, hc⟩
      · rw [if_neg h0] at hc; exact absurd hc h0
    obtain ⟨hH, hL⟩ := hcc
    have h13 := cond13 hH
    have hF : ¬ condF c.op c.kids.length := by
      unfold condH at hH
      intro hF
      rw [if_pos hF] at hH
      cases hH
    unfold condF at hF
    have ih := fun x (hx : x ∈ c.kids) => refHolds_sp hML v hv N x (by have := kids_lt c x hx; omega) (by have := Cd.wt_mem c.kids x hx; omega) (condL_mem _ hL x hx)
    have c1 : ∀ x ∈ c.kids, Sp (cx Tryz.prog mixed tyT_ok E) 73 [encC x, refV v] (dB (!(hold v x))) := fun x hx => by
      have h1 := ih x hx
      generalize hold v x = b at h1
      refine Sp.body Tryz.func73 (by kernel_rfl) rfl (by kernel_rfl) (by kernel_rfl) (by kernel_rfl) ?_
      repeat' first
        | (refine facW_intro ?_; intro _)
        | refine Or.inl ?_
        | ((conv => whnf); first | (refine condW_dec ?_ ?_ <;> intro _) | refine condW_not ?_ | (refine condW_bool ?_ ?_ <;> intro _) | (refine nbC_t (fun _ => ?_) ?_) | (refine nbC_f ?_ (fun _ => ?_)))
        | refine And.intro (by first | omega | (simp only [Int.toNat_natCast] at *; omega) | (simp only [Nat.reduceAdd, Int.cast_ofNat_Int, true_and, and_true]; omega) | kernel_rfl) ?_
        | refine RegW.run ?_
        | refine ⟨_, h1, ?_⟩
        | fail
      all_goals exact Dle.refl _ _
    have c2 : ∀ x ∈ c.kids, Sp (cx Tryz.prog mixed tyT_ok E) 74 [encC x, refV v] (dB (hold v x)) := fun x hx => by
      have h1 := ih x hx
      generalize hold v x = b at h1
      refine Sp.body Tryz.func74 (by kernel_rfl) rfl (by kernel_rfl) (by kernel_rfl) (by kernel_rfl) ?_
      repeat' first
        | (refine facW_intro ?_; intro _)
        | refine Or.inl ?_
        | ((conv => whnf); first | (refine condW_dec ?_ ?_ <;> intro _) | refine condW_not ?_ | (refine condW_bool ?_ ?_ <;> intro _) | (refine nbC_t (fun _ => ?_) ?_) | (refine nbC_f ?_ (fun _ => ?_)))
        | refine And.intro (by first | omega | (simp only [Int.toNat_natCast] at *; omega) | (simp only [Nat.reduceAdd, Int.cast_ofNat_Int, true_and, and_true]; omega) | kernel_rfl) ?_
        | refine RegW.run ?_
        | refine ⟨_, h1, ?_⟩
        | fail
      all_goals exact Dle.refl _ _
    have k1 := containsFC_sp E _ _ _ (fun x => !(hold v x)) c.kids c1
    have k2 := containsFC_sp E _ _ _ (fun x => hold v x) c.kids c2
    have ha := hasAt_sp E hML v c.route hv (by omega)
    obtain ⟨r, hr⟩ : ∃ r, r = hold v c := ⟨_, rfl⟩
    rw [← hr]
    rw [hold_eq, holdAll_any, holdAny_any] at hr
    generalize (c.kids.any fun x => !(hold v x)) = b1 at hr k1
    generalize (c.kids.any fun x => hold v x) = b2 at hr k2
    by_cases h3 : c.op = 3
    · have hk0 : 0 < c.kids.length := by omega
      have h1 := ih _ (getD_mem c.kids .zero 0 hk0)
      rw [if_neg (by omega), if_neg (by omega), if_pos h3, holdFst_eq hk0] at hr
      generalize hold v (c.kids.getD 0 .zero) = b at h1 hr
      refine Sp.body Tryz.func28 (by kernel_rfl) rfl (by kernel_rfl) (by kernel_rfl) (by kernel_rfl) ?_
      repeat' first
        | (refine facW_intro ?_; intro _)
        | refine Or.inl ?_
        | ((conv => whnf); first | (refine condW_dec ?_ ?_ <;> intro _ <;> try (exfalso; omega)) | refine condW_not ?_ | (refine condW_bool ?_ ?_ <;> intro _ <;> try (exfalso; omega)) | (refine nbC_t (fun _ => ?_) ?_) | (refine nbC_f ?_ (fun _ => ?_)))
        | refine And.intro (by first | omega | (simp only [Int.toNat_natCast] at *; omega) | (simp only [Nat.reduceAdd, Int.cast_ofNat_Int, true_and, and_true]; omega) | kernel_rfl) ?_
        | refine RegW.run ?_
        | refine ⟨_, h1, ?_⟩
        | fail
      all_goals first
        | exact Dle.bo (by rw [hr])
        | trace_state
    · by_cases h2 : c.op ≤ 2
      · have hr : r = if c.op = 1 then !b1 else b2 := by rw [hr]; grind
        refine Sp.body Tryz.func28 (by kernel_rfl) rfl (by kernel_rfl) (by kernel_rfl) (by kernel_rfl) ?_
        repeat' first
          | (refine facW_intro ?_; intro _)
          | refine Or.inl ?_
          | ((conv => whnf); first | (refine condW_dec ?_ ?_ <;> intro _ <;> try (exfalso; omega)) | refine condW_not ?_ | (refine condW_bool ?_ ?_ <;> intro _ <;> try (exfalso; omega)) | (refine nbC_t (fun _ => ?_) ?_) | (refine nbC_f ?_ (fun _ => ?_)))
          | refine And.intro (by first | omega | (simp only [Int.toNat_natCast] at *; omega) | (simp only [Nat.reduceAdd, Int.cast_ofNat_Int, true_and, and_true]; omega) | kernel_rfl) ?_
          | refine RegW.run ?_
          | refine ⟨_, k1, ?_⟩
          | refine ⟨_, k2, ?_⟩
          | fail
        all_goals first
          | exact Dle.bo (by rw [hr]; grind)
          | trace_state
      · rw [if_neg (by omega), if_neg (by omega), if_neg h3] at hr
        have hxr := item_range (hasR_ok (s := c.route) hv)
        generalize hasR v c.route = y at hr ha hxr
        have hte := there_eq hxr
        have hcmp := compareOf_sp E _ y c.value (Nat.lt_succ_self _)
        have ham1 := containsFV_sp E _ _ _ (fun x => decide (cmpV x c.value = 0)) y.items (fun x _ => isIt_sp E c x)
        have ham2 := containsFV_sp E _ _ _ (fun x => decide (cmpV y x = 0)) c.value.items (fun x _ => isThis_sp E y x)
        have e1 : y.items.any (fun x => decide (cmpV x c.value = 0)) = amongB y.items c.value := rfl
        rw [e1] at ham1
        rw [← among_turn] at ham2
        have hct := contains_sp E hML y.text c.value.text (by omega)
        have hpf := hasPrefix_sp E y.text c.value.text
        unfold holdH orderedB at hr
        generalize cmpV y c.value = n at hr hcmp
        generalize thereB y = b3 at hr hte
        generalize amongB y.items c.value = b4 at hr ham1
        generalize amongB c.value.items y = b5 at hr ham2
        generalize hasB y.text c.value.text = b6 at hr hct
        generalize preB y.text c.value.text = b7 at hr hpf
        refine Sp.body Tryz.func28 (by kernel_rfl) rfl (by kernel_rfl) (by kernel_rfl) (by kernel_rfl) ?_
        repeat' first
          | (refine facW_intro ?_; intro _)
          | refine Or.inl ?_
          | ((conv => whnf); first | (refine condW_dec ?_ ?_ <;> intro _ <;> try (exfalso; omega)) | refine condW_not ?_ | (refine condW_bool ?_ ?_ <;> intro _ <;> try (exfalso; omega)) | (refine nbC_t (fun _ => ?_) ?_) | (refine nbC_f ?_ (fun _ => ?_)))
          | refine And.intro (by first | omega | (simp only [Int.toNat_natCast] at *; omega) | (simp only [Nat.reduceAdd, Int.cast_ofNat_Int, true_and, and_true]; omega) | kernel_rfl) ?_
          | refine RegW.run ?_
          | refine ⟨_, ha, ?_⟩
          | refine ⟨_, hcmp, ?_⟩
          | refine ⟨_, ham1, ?_⟩
          | refine ⟨_, ham2, ?_⟩
          | refine ⟨_, hct, ?_⟩
          | refine ⟨_, hpf, ?_⟩
          | fail
        all_goals first
          | exact Dle.bo (by rw [hr]; grind)
          | trace_state
theorem holdsOf_sp (E0 : Env) (hg : ∀ w, E0.G w → ∀ g, Rep view E0.MG w b0 (wordsGv g) (.pointer (some ⟨g, 0, none⟩))) (E : Env) (hE : E = wEnv E0 hg) (hML : ∀ w, E.G w → ML w) (c : Cd) (v : Vu) (hw : c.wt ≤ 100000000) (hb : cnt v ≤ 1000000000000) : Sp (cx Tryz.prog mixed tyT_ok E) 10 [encC c, encV v] (.tup [dB (holdsE c v).1, i64 (holdsE c v).2]) := by
  have h1 := refCondFault_sp E0 hg E hE hML c hw
  have h2 := refItem_sp E v hb
  obtain ⟨r, hr⟩ : ∃ r, r = holdsE c v := ⟨_, rfl⟩
  rw [← hr]
  unfold holdsE at hr
  have h3 := fun (hv : itemCheckE v = 0) (hc : condCheck c = 0) => refHolds_sp E hML v (itemCheck_ok hv) _ c (Nat.lt_succ_self _) hw (condCheck_ok hc)
  generalize condCheck c = a at hr h1 h3
  generalize itemCheckE v = b at hr h2 h3
  generalize hold v c = q at hr h3
  by_cases ha : a = 0
  · by_cases hb : b = 0
    · have h3 := h3 hb ha
      rw [ha, hb] at hr
      simp only [ne_eq, not_true_eq_false, if_false] at hr
      subst hr
      refine Sp.body Tryz.func10 (by kernel_rfl) rfl (by kernel_rfl) (by kernel_rfl) (by kernel_rfl) ?_
      repeat' first
        | (refine facW_intro ?_; intro _)
        | refine Or.inl ?_
        | ((conv => whnf); first | (refine condW_dec ?_ ?_ <;> intro _ <;> try (exfalso; omega)) | refine condW_not ?_ | (refine condW_bool ?_ ?_ <;> intro _ <;> try (exfalso; omega)) | (refine nbC_t (fun _ => ?_) ?_) | (refine nbC_f ?_ (fun _ => ?_)))
        | refine And.intro (by first | omega | (simp only [Int.toNat_natCast] at *; omega) | (simp only [Nat.reduceAdd, Int.cast_ofNat_Int, true_and, and_true]; omega) | kernel_rfl) ?_
        | refine RegW.run ?_
        | refine ⟨_, h1, ?_⟩
        | refine ⟨_, h2, ?_⟩
        | refine ⟨_, h3, ?_⟩
        | fail
      all_goals first
        | exact Dle.refl _ _
        | trace_state
    · rw [ha, if_neg (by simp), if_pos hb] at hr
      subst hr
      refine Sp.body Tryz.func10 (by kernel_rfl) rfl (by kernel_rfl) (by kernel_rfl) (by kernel_rfl) ?_
      repeat' first
        | (refine facW_intro ?_; intro _)
        | refine Or.inl ?_
        | ((conv => whnf); first | (refine condW_dec ?_ ?_ <;> intro _ <;> try (exfalso; omega)) | refine condW_not ?_ | (refine condW_bool ?_ ?_ <;> intro _ <;> try (exfalso; omega)) | (refine nbC_t (fun _ => ?_) ?_) | (refine nbC_f ?_ (fun _ => ?_)))
        | refine And.intro (by first | omega | (simp only [Int.toNat_natCast] at *; omega) | (simp only [Nat.reduceAdd, Int.cast_ofNat_Int, true_and, and_true]; omega) | kernel_rfl) ?_
        | refine RegW.run ?_
        | refine ⟨_, h1, ?_⟩
        | refine ⟨_, h2, ?_⟩
        | fail
      all_goals first
        | exact Dle.refl _ _
        | trace_state
  · rw [if_pos ha] at hr
    subst hr
    refine Sp.body Tryz.func10 (by kernel_rfl) rfl (by kernel_rfl) (by kernel_rfl) (by kernel_rfl) ?_
    repeat' first
      | (refine facW_intro ?_; intro _)
      | refine Or.inl ?_
      | ((conv => whnf); first | (refine condW_dec ?_ ?_ <;> intro _ <;> try (exfalso; omega)) | refine condW_not ?_ | (refine condW_bool ?_ ?_ <;> intro _ <;> try (exfalso; omega)) | (refine nbC_t (fun _ => ?_) ?_) | (refine nbC_f ?_ (fun _ => ?_)))
      | refine And.intro (by first | omega | (simp only [Int.toNat_natCast] at *; omega) | (simp only [Nat.reduceAdd, Int.cast_ofNat_Int, true_and, and_true]; omega) | kernel_rfl) ?_
      | refine RegW.run ?_
      | refine ⟨_, h1, ?_⟩
      | refine ⟨_, h2, ?_⟩
      | fail
    all_goals first
      | exact Dle.refl _ _
      | trace_state
theorem condHolds_sp (E0 : Env) (hg : ∀ w, E0.G w → ∀ g, Rep view E0.MG w b0 (wordsGv g) (.pointer (some ⟨g, 0, none⟩))) (E : Env) (hE : E = wEnv E0 hg) (hML : ∀ w, E.G w → ML w) (c : Cd) (v : Vu) (hw : c.wt ≤ 100000000) (hb : cnt v ≤ 1000000000000) : Sp (cx Tryz.prog mixed tyT_ok E) 3 [encC c, encV v] (dB true) := by
  have h1 := lHoldsFn_sp E hML c v hw hb
  have h2 := holdsOf_sp E0 hg E hE hML c v hw hb
  generalize holdsE c v = r at h1 h2
  refine Sp.body Tryz.func3 (by kernel_rfl) rfl (by kernel_rfl) (by kernel_rfl) (by kernel_rfl) ?_
  repeat' first
    | (refine facW_intro ?_; intro _)
    | refine Or.inl ?_
    | ((conv => whnf); first | (refine condW_dec ?_ ?_ <;> intro _) | refine condW_not ?_ | (refine condW_bool ?_ ?_ <;> intro _) | (refine nbC_t (fun _ => ?_) ?_) | (refine nbC_f ?_ (fun _ => ?_)))
    | refine And.intro (by first | omega | (simp only [Int.toNat_natCast] at *; omega) | (simp only [Nat.reduceAdd, Int.cast_ofNat_Int, true_and, and_true]; omega) | kernel_rfl) ?_
    | refine RegW.run ?_
    | refine ⟨_, h1, ?_⟩
    | refine ⟨_, h2, ?_⟩
    | fail
  all_goals first
    | (exfalso; rename_i h; exact h rfl)
    | exact Dle.bo (by simp)
    | trace_state
end
end Go.Proofs.YtkjflkbjepdaaaaGreatDoor
