/-
  A value without the item to which a route leads: the reference's RemoveOf; the law's walk.
-/
import Derived.Test.YtdpbgpkjlbdbfaaGreatDoorCr3
import Derived.Test.YtdpbgpkjlbdbfaaGreatDoorS4
namespace Go.Proofs.YtdpbgpkjlbdbfaaGreatDoor
open Go.RowKit
set_option linter.unusedVariables false
set_option linter.unusedSimpArgs false
namespace cr
section
variable (E : Env)
set_option maxRecDepth 100000
set_option maxHeartbeats 4000000 in
theorem removeOf_sp (hML : ∀ w, E.G w → ML w) (v : Vu) (s : ByteArray) (hw : v.wt ≤ 100000000) (hs : s.size ≤ 100000000) : Sp (cx Tryz.prog mixed tyT_ok E) 17 [encV v, dS s] (.tup [encV (removeR v s).1, i64 (removeR v s).2]) := by
  have hc := refCheck_sp E v (by have := cnt_le_wt v; omega)
  have hst := routeParts_sp E hML s false (by omega)
  have hf := @check_ok v
  obtain ⟨r, hr⟩ : ∃ r, r = removeR v s := ⟨_, rfl⟩
  rw [← hr]
  unfold removeR at hr
  generalize checkE v = e at hc hf hr
  by_cases he : e = 0
  · have hfv := hf he
    clear hf
    rw [if_neg (show ¬ (e ≠ 0) from fun h2 => h2 he)] at hr
    subst he
    cases ho : routeOk false s
    · rw [ho] at hst hr
      have hr := hr.trans (if_pos (.inl rfl))
      subst hr
      refine Sp.body Tryz.func17 (by kernel_rfl) rfl (by kernel_rfl) (by kernel_rfl) (by kernel_rfl) ?_
      repeat' first
        | (refine codeW_cond rfl ?_; first | (refine condW_dec ?_ ?_ <;> intro _ <;> try (exfalso; omega)) | refine condW_not ?_ | (refine condW_bool ?_ ?_ <;> intro _ <;> try (exfalso; omega)))
        | (refine facW_intro ?_; intro _)
        | refine Or.inl ?_
        | ((conv => whnf); first | (refine condW_dec ?_ ?_ <;> intro _ <;> try (exfalso; omega)) | refine condW_not ?_ | (refine condW_bool ?_ ?_ <;> intro _ <;> try (exfalso; omega)) | (refine nbC_t (fun _ => ?_) ?_) | (refine nbC_f ?_ (fun _ => ?_)))
        | refine And.intro (by first | omega | (simp only [Int.toNat_natCast] at *; omega) | (simp only [Nat.reduceAdd, Int.cast_ofNat_Int, true_and, and_true]; omega)  | (simp only [cx, view, Nat.reduceAdd, Int.toNat_natCast]; omega) | kernel_rfl) ?_
        | refine RegW.run ?_
        | refine ⟨_, hc, ?_⟩
        | refine ⟨_, hst, ?_⟩
        | fail
      all_goals first
        | (exfalso; omega)
        | (exfalso; rename_i h; cases h; done)
        | exact Dle.tup (X := (cx Tryz.prog mixed tyT_ok E)) ⟨zeroC E, Dle.refl _ _, trivial⟩
        | trace_state
    · have hl := route_len ho
      have hpo := parts_ok ho
      rw [ho, if_pos rfl] at hst
      rw [ho] at hr
      by_cases h0 : s = ⟨#[]⟩
      · have hr := hr.trans (if_pos (.inr h0))
        subst hr
        refine Sp.body Tryz.func17 (by kernel_rfl) rfl (by kernel_rfl) (by kernel_rfl) (by kernel_rfl) ?_
        repeat' first
          | (refine codeW_cond rfl ?_; first | (refine condW_dec ?_ ?_ <;> intro _ <;> try (exfalso; omega)) | refine condW_not ?_ | (refine condW_bool ?_ ?_ <;> intro _ <;> try (exfalso; omega)))
          | (refine facW_intro ?_; intro _)
          | refine Or.inl ?_
          | ((conv => whnf); first | (refine condW_dec ?_ ?_ <;> intro _ <;> try (exfalso; omega)) | refine condW_not ?_ | (refine condW_bool ?_ ?_ <;> intro _ <;> try (exfalso; omega)) | (refine nbC_t (fun _ => ?_) ?_) | (refine nbC_f ?_ (fun _ => ?_)))
          | refine And.intro (by first | omega | (simp only [Int.toNat_natCast] at *; omega) | (simp only [Nat.reduceAdd, Int.cast_ofNat_Int, true_and, and_true]; omega)  | (simp only [cx, view, Nat.reduceAdd, Int.toNat_natCast]; omega) | kernel_rfl) ?_
          | refine RegW.run ?_
          | refine ⟨_, hc, ?_⟩
          | refine ⟨_, hst, ?_⟩
          | fail
        all_goals first
          | (exfalso; omega)
          | (exfalso; rename_i h; cases h; done)
          | (exfalso; rename_i h; exact h h0)
          | exact Dle.tup (X := (cx Tryz.prog mixed tyT_ok E)) ⟨zeroC E, Dle.refl _ _, trivial⟩
          | trace_state
      · have hr := hr.trans (if_neg (by simp [h0]))
        have hne : partsR s ≠ [] := fun h => h0 (hl.1 (by rw [h]; rfl))
        have hg := refFollow_sp E v (partsR s) hpo hfv
        have hrs := rem_some ((partsR s).map stepOf) v (fun h => hne (List.map_eq_nil_iff.1 h))
        have hd := drop_sp E (partsR s) v hne hpo hfv
        generalize remS ((partsR s).map stepOf) v = q at hrs hr hd
        generalize getS ((partsR s).map stepOf) v = g at hrs hg hd
        cases g with
        | none =>
          cases q with
          | some y => cases hrs
          | none =>
            subst hr
            refine Sp.body Tryz.func17 (by kernel_rfl) rfl (by kernel_rfl) (by kernel_rfl) (by kernel_rfl) ?_
            repeat' first
              | (refine codeW_cond rfl ?_; first | (refine condW_dec ?_ ?_ <;> intro _ <;> try (exfalso; omega)) | refine condW_not ?_ | (refine condW_bool ?_ ?_ <;> intro _ <;> try (exfalso; omega)))
              | (refine facW_intro ?_; intro _)
              | refine Or.inl ?_
              | ((conv => whnf); first | (refine condW_dec ?_ ?_ <;> intro _ <;> try (exfalso; omega)) | refine condW_not ?_ | (refine condW_bool ?_ ?_ <;> intro _ <;> try (exfalso; omega)) | (refine nbC_t (fun _ => ?_) ?_) | (refine nbC_f ?_ (fun _ => ?_)))
              | refine And.intro (by first | omega | (simp only [Int.toNat_natCast] at *; omega) | (simp only [Nat.reduceAdd, Int.cast_ofNat_Int, true_and, and_true]; omega)  | (simp only [cx, view, Nat.reduceAdd, Int.toNat_natCast]; omega) | kernel_rfl) ?_
              | refine RegW.run ?_
              | refine ⟨_, hc, ?_⟩
              | refine ⟨_, hst, ?_⟩
              | refine ⟨_, hg, ?_⟩
              | fail
            all_goals first
              | (exfalso; omega)
              | (exfalso; rename_i h; cases h; done)
              | (exfalso; rename_i h; exact h0 h)
              | exact Dle.tup (X := (cx Tryz.prog mixed tyT_ok E)) ⟨zeroC E, Dle.refl _ _, trivial⟩
              | trace_state
        | some x =>
          cases q with
          | none => cases hrs
          | some y =>
            subst hr
            have hd := hd rfl (by omega)
            refine Sp.body Tryz.func17 (by kernel_rfl) rfl (by kernel_rfl) (by kernel_rfl) (by kernel_rfl) ?_
            repeat' first
              | (refine codeW_cond rfl ?_; first | (refine condW_dec ?_ ?_ <;> intro _ <;> try (exfalso; omega)) | refine condW_not ?_ | (refine condW_bool ?_ ?_ <;> intro _ <;> try (exfalso; omega)))
              | (refine facW_intro ?_; intro _)
              | refine Or.inl ?_
              | ((conv => whnf); first | (refine condW_dec ?_ ?_ <;> intro _ <;> try (exfalso; omega)) | refine condW_not ?_ | (refine condW_bool ?_ ?_ <;> intro _ <;> try (exfalso; omega)) | (refine nbC_t (fun _ => ?_) ?_) | (refine nbC_f ?_ (fun _ => ?_)))
              | refine And.intro (by first | omega | (simp only [Int.toNat_natCast] at *; omega) | (simp only [Nat.reduceAdd, Int.cast_ofNat_Int, true_and, and_true]; omega)  | (simp only [cx, view, Nat.reduceAdd, Int.toNat_natCast]; omega) | kernel_rfl) ?_
              | refine RegW.run ?_
              | refine ⟨_, hc, ?_⟩
              | refine ⟨_, hst, ?_⟩
              | refine ⟨_, hg, ?_⟩
              | refine ⟨_, hd, ?_⟩
              | fail
            all_goals first
              | (exfalso; omega)
              | (exfalso; rename_i h; cases h; done)
              | (exfalso; rename_i h; exact h0 h)
              | exact Dle.tup (X := (cx Tryz.prog mixed tyT_ok E)) ⟨Dle.refl _ _, Dle.refl _ _, trivial⟩
              | trace_state
  · rw [if_pos he] at hr
    subst hr
    refine Sp.body Tryz.func17 (by kernel_rfl) rfl (by kernel_rfl) (by kernel_rfl) (by kernel_rfl) ?_
    repeat' first
      | (refine codeW_cond rfl ?_; first | (refine condW_dec ?_ ?_ <;> intro _ <;> try (exfalso; omega)) | refine condW_not ?_ | (refine condW_bool ?_ ?_ <;> intro _ <;> try (exfalso; omega)))
      | (refine facW_intro ?_; intro _)
      | refine Or.inl ?_
      | ((conv => whnf); first | (refine condW_dec ?_ ?_ <;> intro _ <;> try (exfalso; omega)) | refine condW_not ?_ | (refine condW_bool ?_ ?_ <;> intro _ <;> try (exfalso; omega)) | (refine nbC_t (fun _ => ?_) ?_) | (refine nbC_f ?_ (fun _ => ?_)))
      | refine And.intro (by first | omega | (simp only [Int.toNat_natCast] at *; omega) | (simp only [Nat.reduceAdd, Int.cast_ofNat_Int, true_and, and_true]; omega)  | (simp only [cx, view, Nat.reduceAdd, Int.toNat_natCast]; omega) | kernel_rfl) ?_
      | refine RegW.run ?_
      | refine ⟨_, hc, ?_⟩
      | fail
    all_goals first
      | (exfalso; omega)
      | exact Dle.tup (X := (cx Tryz.prog mixed tyT_ok E)) ⟨zeroC E, Dle.refl _ _, trivial⟩
      | trace_state
theorem confRemoves_sp (hML : ∀ w, E.G w → ML w) (v : Vu) (s : ByteArray) (hw : v.wt ≤ 100000000) (hs : s.size ≤ 100000000) : Sp (cx Tryz.prog mixed tyT_ok E) 5 [encV v, dS s] (dB true) := by
  have h1 := cRemove_sp E hML v s hw hs
  have h2 := removeOf_sp E hML v s hw hs
  have h3 := sameOf_sp E (removeR v s).1
  generalize removeR v s = r at h1 h2 h3
  refine Sp.body Tryz.func5 (by kernel_rfl) rfl (by kernel_rfl) (by kernel_rfl) (by kernel_rfl) ?_
  repeat' first
    | (refine codeW_cond rfl ?_; first | (refine condW_dec ?_ ?_ <;> intro _ <;> try (exfalso; omega)) | refine condW_not ?_ | (refine condW_bool ?_ ?_ <;> intro _ <;> try (exfalso; omega)))
    | (refine facW_intro ?_; intro _)
    | refine Or.inl ?_
    | ((conv => whnf); first | (refine condW_dec ?_ ?_ <;> intro _) | refine condW_not ?_ | (refine condW_bool ?_ ?_ <;> intro _) | (refine nbC_t (fun _ => ?_) ?_) | (refine nbC_f ?_ (fun _ => ?_)))
    | refine And.intro (by first | omega | (simp only [Int.toNat_natCast] at *; omega) | (simp only [Nat.reduceAdd, Int.cast_ofNat_Int, true_and, and_true]; omega)  | (simp only [cx, view, Nat.reduceAdd, Int.toNat_natCast]; omega) | kernel_rfl) ?_
    | refine RegW.run ?_
    | refine ⟨_, h1, ?_⟩
    | refine ⟨_, h2, ?_⟩
    | refine ⟨_, h3, ?_⟩
    | fail
  all_goals first
    | (exfalso; rename_i h; exact h rfl)
    | exact Dle.bo (by simp)
    | trace_state
end
end cr
end Go.Proofs.YtdpbgpkjlbdbfaaGreatDoor
