/-
  The reference's ApplyOf. Apply answers as the reference's ApplyOf: the law's walk; changes as an argument.
-/
import Derived.Test.YtjbgafbijamckaaGreatDoorAp3
import Derived.Test.YtjbgafbijamckaaGreatDoorSe6
import Derived.Test.YtjbgafbijamckaaGreatDoorPV
namespace Go.Proofs.YtjbgafbijamckaaGreatDoor
open Go.RowKit
set_option linter.unusedVariables false
set_option linter.unusedSimpArgs false
namespace ap
open cr se
theorem zero_unused {v : Vu} (h : v.kind = 0) : zeroP v ↔ ¬ unusedP v := by
  unfold zeroP unusedP
  cases hb : v.b <;> grind
section
variable (E : Env)
set_option maxRecDepth 100000
set_option maxHeartbeats 8000000 in
theorem applyOf_sp (hML : ∀ w, E.G w → ML w) (v : Vu) (l : List Chg) (hw : v.wt ≤ 2000000) (hl : (l.map Chg.wt).sum ≤ 2000000) : Sp (cx Tryz.prog mixed tyT_ok E) 10 [encV v, encGs l] (.tup [encV (appR v l).1, i64 (appR v l).2]) := by
  have hc := refCheck_sp E v (by have := cnt_le_wt v; omega)
  have hck := @check_ok v
  have hll := len_wt l
  have hws := wsum_le l
  obtain ⟨r, hr⟩ : ∃ r, r = appR v l := ⟨_, rfl⟩
  rw [← hr]
  unfold appR at hr
  generalize checkE v = ev at hc hr hck
  by_cases h1 : ev = 0
  · have hfv := hck h1
    clear hck
    subst h1
    rw [if_neg (show ¬ ((0 : Int) ≠ 0) from fun h => h rfl)] at hr
    refine Sp.body Tryz.func10 (by kernel_rfl) rfl (by kernel_rfl) (by kernel_rfl) (by kernel_rfl) ?_
    repeat' first
      | (refine codeW_cond rfl ?_; first | (refine condW_dec ?_ ?_ <;> intro _ <;> try (exfalso; omega)) | refine condW_not ?_ | (refine condW_bool ?_ ?_ <;> intro _ <;> try (exfalso; omega)))
      | (refine facW_intro ?_; intro _)
      | refine Or.inl ?_
      | ((conv => whnf); first | (refine condW_dec ?_ ?_ <;> intro _ <;> try (exfalso; omega)) | refine condW_not ?_ | (refine condW_bool ?_ ?_ <;> intro _ <;> try (exfalso; omega)) | (refine nbC_t (fun _ => ?_) ?_) | (refine nbC_f ?_ (fun _ => ?_)))
      | refine And.intro (by first | omega | (simp only [Int.toNat_natCast] at *; omega) | (simp only [Nat.reduceAdd, Int.cast_ofNat_Int, true_and, and_true]; omega)  | (simp only [cx, view, Nat.reduceAdd, Int.toNat_natCast]; omega) | kernel_rfl) ?_
      | refine RegW.run ?_
      | refine ⟨_, hc, ?_⟩
      | fail
    refine ⟨Nat, fun k => [(29, i64 k)], fun k => [], [2, 4], fun k => [], fun k => k ≤ l.length ∧ fltS l = fltS (l.drop k), fun k => l.length - k, ⟨0, ⟨by omega, rfl⟩, ⟨[], ⟨by kernel_rfl, by kernel_rfl, by kernel_rfl, by kernel_rfl, by kernel_rfl, by kernel_rfl, by kernel_rfl⟩, (by repeat' first | exact trivial | exact rfl | kernel_rfl | exact Dle.of_eq rfl | exact MLe.of_eq rfl | exact Dle.i (by omega) | exact Dle.i (by simp only [Int.toNat_natCast] at *; omega) | exact Dle.nil | exact Dle.rc Dle.nil | exact Option.some_ne_none _ | exact Or.inl rfl | exact Or.inr trivial | omega | (simp only [Int.toNat_natCast] at *; omega) | (intro _ _ _ _; exact Dle.of_eq rfl) | refine And.intro ?_ ?_)⟩⟩, fun k hk => ?_⟩
    obtain ⟨hk, hF⟩ := hk
    by_cases hlt : k < l.length
    · have h2 := wt_at l k hlt
      have h3 : (l.getD k default).wt = (l.getD k default).route.size + 1 + (l.getD k default).value.wt := rfl
      have hz := sameZero_sp E (l.getD k default).value
      have hzu := @zero_unused (l.getD k default).value
      have hcc := refCheck_sp E (l.getD k default).value (by have := cnt_le_wt (l.getD k default).value; omega)
      have hrp := routeParts_sp E hML (l.getD k default).route false (by omega)
      have hn := @route_len (l.getD k default).route
      rw [fltS_drop hlt] at hF
      obtain ⟨f, hf⟩ : ∃ f, f = chF (l.getD k default) := ⟨_, rfl⟩
      rw [← hf] at hF
      unfold chF at hf
      clear hc
      generalize checkE (l.getD k default).value = e at hcc hf
      cases hg : (l.getD k default).gone with
      | true =>
        rw [hg] at hf
        cases ho : routeOk false (l.getD k default).route
        · rw [ho] at hrp hf hn
          repeat' first
            | (refine codeW_cond rfl ?_; first | (refine condW_dec ?_ ?_ <;> intro _ <;> try (exfalso; first | omega | (rename_i h; exact absurd (hg.symm.trans h) (by decide)))) | refine condW_not ?_ | (refine condW_bool ?_ ?_ <;> intro _ <;> try (exfalso; first | omega | (rename_i h; exact absurd (hg.symm.trans h) (by decide)))))
            | (refine facW_intro ?_; intro _)
            | refine Or.inl ?_
            | ((conv => whnf); first | (refine condW_dec ?_ ?_ <;> intro _ <;> try (exfalso; first | omega | (rename_i h; exact absurd (hg.symm.trans h) (by decide)))) | refine condW_not ?_ | (refine condW_bool ?_ ?_ <;> intro _ <;> try (exfalso; first | omega | (rename_i h; exact absurd (hg.symm.trans h) (by decide)))) | (refine nbC_t (fun _ => ?_) ?_) | (refine nbC_f ?_ (fun _ => ?_)))
            | refine And.intro (by first | omega | (simp only [Int.toNat_natCast] at *; omega) | (simp only [Nat.reduceAdd, Int.cast_ofNat_Int, true_and, and_true]; omega)  | (simp only [cx, view, Nat.reduceAdd, Int.toNat_natCast]; omega) | kernel_rfl) ?_
            | refine RegW.run ?_
            | refine ⟨_, hz, ?_⟩
            | refine ⟨_, hcc, ?_⟩
            | refine ⟨_, hrp, ?_⟩
            | fail
          all_goals first
            | (exfalso; omega)
            | (have hfv : f = 1 := (by rw [hf]; grind); rw [hfv, if_pos (by decide)] at hF; rw [hF, if_pos (by decide)] at hr; subst hr; exact Dle.tup (X := (cx Tryz.prog mixed tyT_ok E)) ⟨zeroC E, Dle.refl _ _, trivial⟩)
            | (have hfv : f = e ∧ e ≠ 0 := (by rw [hf]; grind); rw [hfv.1, if_pos hfv.2] at hF; rw [hF, if_pos hfv.2] at hr; subst hr; exact Dle.tup (X := (cx Tryz.prog mixed tyT_ok E)) ⟨zeroC E, Dle.refl _ _, trivial⟩)
            | (have hfv : f = 3 := (by rw [hf]; grind); rw [hfv, if_pos (by decide)] at hF; rw [hF, if_pos (by decide)] at hr; subst hr; exact Dle.tup (X := (cx Tryz.prog mixed tyT_ok E)) ⟨zeroC E, Dle.refl _ _, trivial⟩)
            | (exfalso; grind)
            | trace_state
        · rw [ho, if_pos rfl] at hrp
          rw [ho] at hf hn
          have hn := hn rfl
          repeat' first
            | (refine codeW_cond rfl ?_; first | (refine condW_dec ?_ ?_ <;> intro _ <;> try (exfalso; first | omega | (rename_i h; exact absurd (hg.symm.trans h) (by decide)))) | refine condW_not ?_ | (refine condW_bool ?_ ?_ <;> intro _ <;> try (exfalso; first | omega | (rename_i h; exact absurd (hg.symm.trans h) (by decide)))))
            | (refine facW_intro ?_; intro _)
            | refine Or.inl ?_
            | ((conv => whnf); first | (refine condW_dec ?_ ?_ <;> intro _ <;> try (exfalso; first | omega | (rename_i h; exact absurd (hg.symm.trans h) (by decide)))) | refine condW_not ?_ | (refine condW_bool ?_ ?_ <;> intro _ <;> try (exfalso; first | omega | (rename_i h; exact absurd (hg.symm.trans h) (by decide)))) | (refine nbC_t (fun _ => ?_) ?_) | (refine nbC_f ?_ (fun _ => ?_)))
            | refine And.intro (by first | omega | (simp only [Int.toNat_natCast] at *; omega) | (simp only [Nat.reduceAdd, Int.cast_ofNat_Int, true_and, and_true]; omega)  | (simp only [cx, view, Nat.reduceAdd, Int.toNat_natCast]; omega) | kernel_rfl) ?_
            | refine RegW.run ?_
            | refine ⟨_, hz, ?_⟩
            | refine ⟨_, hcc, ?_⟩
            | refine ⟨_, hrp, ?_⟩
            | fail
          all_goals first
            | (exfalso; omega)
            | (have hfv : f = 1 := (by rw [hf]; grind); rw [hfv, if_pos (by decide)] at hF; rw [hF, if_pos (by decide)] at hr; subst hr; exact Dle.tup (X := (cx Tryz.prog mixed tyT_ok E)) ⟨zeroC E, Dle.refl _ _, trivial⟩)
            | (have hfv : f = e ∧ e ≠ 0 := (by rw [hf]; grind); rw [hfv.1, if_pos hfv.2] at hF; rw [hF, if_pos hfv.2] at hr; subst hr; exact Dle.tup (X := (cx Tryz.prog mixed tyT_ok E)) ⟨zeroC E, Dle.refl _ _, trivial⟩)
            | (have hfv : f = 3 := (by rw [hf]; grind); rw [hfv, if_pos (by decide)] at hF; rw [hF, if_pos (by decide)] at hr; subst hr; exact Dle.tup (X := (cx Tryz.prog mixed tyT_ok E)) ⟨zeroC E, Dle.refl _ _, trivial⟩)
            | (have hfv : f = 0 := (by rw [hf]; grind); rw [hfv, if_neg (by decide)] at hF; exact ⟨k + 1, ⟨by omega, hF⟩, ⟨[], ⟨by kernel_rfl, by kernel_rfl, by kernel_rfl, by kernel_rfl, by kernel_rfl, by kernel_rfl, by kernel_rfl⟩, (by repeat' first | exact trivial | exact rfl | kernel_rfl | exact Dle.of_eq rfl | exact MLe.of_eq rfl | exact Dle.i (by omega) | exact Dle.i (by simp only [Int.toNat_natCast] at *; omega) | exact Dle.nil | exact Dle.rc Dle.nil | exact Option.some_ne_none _ | exact Or.inl rfl | exact Or.inr trivial | omega | (simp only [Int.toNat_natCast] at *; omega) | (intro _ _ _ _; exact Dle.of_eq rfl) | refine And.intro ?_ ?_)⟩, by first | omega | (dsimp only; omega)⟩)
            | (exfalso; grind)
            | trace_state
      | false =>
        rw [hg] at hf
        cases ho : routeOk false (l.getD k default).route
        · rw [ho] at hrp hf hn
          repeat' first
            | (refine codeW_cond rfl ?_; first | (refine condW_dec ?_ ?_ <;> intro _ <;> try (exfalso; first | omega | (rename_i h; exact absurd (hg.symm.trans h) (by decide)))) | refine condW_not ?_ | (refine condW_bool ?_ ?_ <;> intro _ <;> try (exfalso; first | omega | (rename_i h; exact absurd (hg.symm.trans h) (by decide)))))
            | (refine facW_intro ?_; intro _)
            | refine Or.inl ?_
            | ((conv => whnf); first | (refine condW_dec ?_ ?_ <;> intro _ <;> try (exfalso; first | omega | (rename_i h; exact absurd (hg.symm.trans h) (by decide)))) | refine condW_not ?_ | (refine condW_bool ?_ ?_ <;> intro _ <;> try (exfalso; first | omega | (rename_i h; exact absurd (hg.symm.trans h) (by decide)))) | (refine nbC_t (fun _ => ?_) ?_) | (refine nbC_f ?_ (fun _ => ?_)))
            | refine And.intro (by first | omega | (simp only [Int.toNat_natCast] at *; omega) | (simp only [Nat.reduceAdd, Int.cast_ofNat_Int, true_and, and_true]; omega)  | (simp only [cx, view, Nat.reduceAdd, Int.toNat_natCast]; omega) | kernel_rfl) ?_
            | refine RegW.run ?_
            | refine ⟨_, hz, ?_⟩
            | refine ⟨_, hcc, ?_⟩
            | refine ⟨_, hrp, ?_⟩
            | fail
          all_goals first
            | (exfalso; omega)
            | (have hfv : f = e ∧ e ≠ 0 := (by rw [hf]; grind); rw [hfv.1, if_pos hfv.2] at hF; rw [hF, if_pos hfv.2] at hr; subst hr; exact Dle.tup (X := (cx Tryz.prog mixed tyT_ok E)) ⟨zeroC E, Dle.refl _ _, trivial⟩)
            | (have hfv : f = 3 := (by rw [hf]; grind); rw [hfv, if_pos (by decide)] at hF; rw [hF, if_pos (by decide)] at hr; subst hr; exact Dle.tup (X := (cx Tryz.prog mixed tyT_ok E)) ⟨zeroC E, Dle.refl _ _, trivial⟩)
            | (exfalso; grind)
            | trace_state
        · rw [ho, if_pos rfl] at hrp
          rw [ho] at hf hn
          repeat' first
            | (refine codeW_cond rfl ?_; first | (refine condW_dec ?_ ?_ <;> intro _ <;> try (exfalso; first | omega | (rename_i h; exact absurd (hg.symm.trans h) (by decide)))) | refine condW_not ?_ | (refine condW_bool ?_ ?_ <;> intro _ <;> try (exfalso; first | omega | (rename_i h; exact absurd (hg.symm.trans h) (by decide)))))
            | (refine facW_intro ?_; intro _)
            | refine Or.inl ?_
            | ((conv => whnf); first | (refine condW_dec ?_ ?_ <;> intro _ <;> try (exfalso; first | omega | (rename_i h; exact absurd (hg.symm.trans h) (by decide)))) | refine condW_not ?_ | (refine condW_bool ?_ ?_ <;> intro _ <;> try (exfalso; first | omega | (rename_i h; exact absurd (hg.symm.trans h) (by decide)))) | (refine nbC_t (fun _ => ?_) ?_) | (refine nbC_f ?_ (fun _ => ?_)))
            | refine And.intro (by first | omega | (simp only [Int.toNat_natCast] at *; omega) | (simp only [Nat.reduceAdd, Int.cast_ofNat_Int, true_and, and_true]; omega)  | (simp only [cx, view, Nat.reduceAdd, Int.toNat_natCast]; omega) | kernel_rfl) ?_
            | refine RegW.run ?_
            | refine ⟨_, hz, ?_⟩
            | refine ⟨_, hcc, ?_⟩
            | refine ⟨_, hrp, ?_⟩
            | fail
          all_goals first
            | (exfalso; omega)
            | (have hfv : f = e ∧ e ≠ 0 := (by rw [hf]; grind); rw [hfv.1, if_pos hfv.2] at hF; rw [hF, if_pos hfv.2] at hr; subst hr; exact Dle.tup (X := (cx Tryz.prog mixed tyT_ok E)) ⟨zeroC E, Dle.refl _ _, trivial⟩)
            | (have hfv : f = 0 := (by rw [hf]; grind); rw [hfv, if_neg (by decide)] at hF; exact ⟨k + 1, ⟨by omega, hF⟩, ⟨[], ⟨by kernel_rfl, by kernel_rfl, by kernel_rfl, by kernel_rfl, by kernel_rfl, by kernel_rfl, by kernel_rfl⟩, (by repeat' first | exact trivial | exact rfl | kernel_rfl | exact Dle.of_eq rfl | exact MLe.of_eq rfl | exact Dle.i (by omega) | exact Dle.i (by simp only [Int.toNat_natCast] at *; omega) | exact Dle.nil | exact Dle.rc Dle.nil | exact Option.some_ne_none _ | exact Or.inl rfl | exact Or.inr trivial | omega | (simp only [Int.toNat_natCast] at *; omega) | (intro _ _ _ _; exact Dle.of_eq rfl) | refine And.intro ?_ ?_)⟩, by first | omega | (dsimp only; omega)⟩)
            | (exfalso; grind)
            | trace_state
    · rw [fltS_end (by omega)] at hF
      have hall := fltS_mem l hF
      rw [hF, if_neg (fun h => h rfl)] at hr
      clear hc hF
      repeat' first
        | (refine codeW_cond rfl ?_; first | (refine condW_dec ?_ ?_ <;> intro _ <;> try (exfalso; omega)) | refine condW_not ?_ | (refine condW_bool ?_ ?_ <;> intro _ <;> try (exfalso; omega)))
        | (refine facW_intro ?_; intro _)
        | refine Or.inl ?_
        | ((conv => whnf); first | (refine condW_dec ?_ ?_ <;> intro _ <;> try (exfalso; omega)) | refine condW_not ?_ | (refine condW_bool ?_ ?_ <;> intro _ <;> try (exfalso; omega)) | (refine nbC_t (fun _ => ?_) ?_) | (refine nbC_f ?_ (fun _ => ?_)))
        | refine And.intro (by first | omega | (simp only [Int.toNat_natCast] at *; omega) | (simp only [Nat.reduceAdd, Int.cast_ofNat_Int, true_and, and_true]; omega)  | (simp only [cx, view, Nat.reduceAdd, Int.toNat_natCast]; omega) | kernel_rfl) ?_
        | refine RegW.run ?_
        | fail
      refine ⟨Nat × Vu, fun k => [(77, i64 k.1)], fun k => [(2, .cells [i64 k.2.kind, dB k.2.b, i64 k.2.i, dS k.2.text, .rc (.vals k.2.items), encStrs k.2.keys])], [4], fun k => [], fun k => k.1 ≤ l.length ∧ faultE k.2 = 0 ∧ k.2.wt + wsum (l.drop k.1) ≤ v.wt + wsum l ∧ appS l v = appS (l.drop k.1) k.2, fun k => l.length - k.1, ⟨(0, v), ⟨by omega, hfv, Nat.le_refl _, rfl⟩, ⟨[], ⟨by kernel_rfl, by kernel_rfl, by kernel_rfl, by kernel_rfl, by kernel_rfl, by kernel_rfl, by kernel_rfl⟩, (by repeat' first | exact trivial | exact rfl | kernel_rfl | exact Dle.of_eq rfl | exact MLe.of_eq rfl | exact Dle.i (by omega) | exact Dle.i (by simp only [Int.toNat_natCast] at *; omega) | exact Dle.nil | exact Dle.rc Dle.nil | exact Option.some_ne_none _ | exact Or.inl rfl | exact Or.inr trivial | omega | (simp only [Int.toNat_natCast] at *; omega) | (intro _ _ _ _; exact Dle.of_eq rfl) | refine And.intro ?_ ?_)⟩⟩, fun k hk => ?_⟩
      obtain ⟨hk1, hk2, hk3, hk4⟩ := hk
      by_cases hlt : k.1 < l.length
      · have hcm := hall _ (getD_mem l default k.1 hlt)
        obtain ⟨g1, g2, g3⟩ := ch_ok hcm
        have hpo := parts_ok g3
        obtain ⟨o1, o2⟩ := out_fault hcm hk2
        have hst := routeParts_sp E hML (l.getD k.1 default).route false (by have h1 := wt_at l k.1 hlt; have h2 : (l.getD k.1 default).wt = (l.getD k.1 default).route.size + 1 + (l.getD k.1 default).value.wt := rfl; omega)
        rw [g3, if_pos rfl] at hst
        rw [wsum_drop hlt] at hk3
        rw [appS_drop hlt] at hk4
        cases hg : (l.getD k.1 default).gone with
        | true =>
          have hne : partsR (l.getD k.1 default).route ≠ [] := fun h => (g1 hg).2.2 ((route_len g3).1 (by rw [h]; rfl))
          have hrs := rem_some (stepsC (l.getD k.1 default)) k.2 (fun h => hne (List.map_eq_nil_iff.1 h))
          have hfo := refFollow_sp E k.2 (partsR (l.getD k.1 default).route) hpo hk2
          have hdr := fun q => drop_sp E (partsR (l.getD k.1 default).route) k.2 hne hpo hk2 q (by omega)
          have e1 : outS (l.getD k.1 default) k.2 = ((remS (stepsC (l.getD k.1 default)) k.2).getD .zero, if (remS (stepsC (l.getD k.1 default)) k.2).isSome = true then 0 else 7) := by unfold outS; rw [if_pos hg]
          rw [e1] at o1 o2 hk4
          change Sp (cx Tryz.prog mixed tyT_ok E) _ _ (.tup [encV ((getS (stepsC (l.getD k.1 default)) k.2).getD .zero), dB (getS (stepsC (l.getD k.1 default)) k.2).isSome]) at hfo
          change (getS (stepsC (l.getD k.1 default)) k.2).isSome = true → Sp (cx Tryz.prog mixed tyT_ok E) _ _ (encV ((remS (stepsC (l.getD k.1 default)) k.2).getD .zero)) at hdr
          generalize (remS (stepsC (l.getD k.1 default)) k.2) = Q at hdr o1 o2 hk4 hrs
          generalize (getS (stepsC (l.getD k.1 default)) k.2) = W at hdr hfo hrs
          cases Q with
          | none =>
            cases W with
            | some x => cases hrs
            | none =>
              have hk4 : appS l v = (.zero, 7) := hk4
              have hfo : Sp (cx Tryz.prog mixed tyT_ok E) _ _ (.tup [encV .zero, dB false]) := hfo
              rw [hk4, if_pos (show ((Vu.zero, (7 : Int)).2 ≠ 0) from by decide)] at hr
              subst hr
              repeat' first
                | (refine codeW_cond rfl ?_; first | (refine condW_dec ?_ ?_ <;> intro _ <;> try (exfalso; first | omega | (rename_i h; exact absurd (hg.symm.trans h) (by decide)))) | refine condW_not ?_ | (refine condW_bool ?_ ?_ <;> intro _ <;> try (exfalso; first | omega | (rename_i h; exact absurd (hg.symm.trans h) (by decide)))))
                | (refine facW_intro ?_; intro _)
                | refine Or.inl ?_
                | ((conv => whnf); first | (refine condW_dec ?_ ?_ <;> intro _ <;> try (exfalso; first | omega | (rename_i h; exact absurd (hg.symm.trans h) (by decide)))) | refine condW_not ?_ | (refine condW_bool ?_ ?_ <;> intro _ <;> try (exfalso; first | omega | (rename_i h; exact absurd (hg.symm.trans h) (by decide)))) | (refine nbC_t (fun _ => ?_) ?_) | (refine nbC_f ?_ (fun _ => ?_)))
                | refine And.intro (by first | omega | (simp only [Int.toNat_natCast] at *; omega) | (simp only [Nat.reduceAdd, Int.cast_ofNat_Int, true_and, and_true]; omega)  | (simp only [cx, view, Nat.reduceAdd, Int.toNat_natCast]; omega) | kernel_rfl) ?_
                | refine RegW.run ?_
                | refine ⟨_, hst, ?_⟩
                | refine ⟨_, hfo, ?_⟩
                | fail
              all_goals first
                | (exfalso; omega)
                | (exfalso; rename_i h; cases h; done)
                | exact Dle.tup (X := (cx Tryz.prog mixed tyT_ok E)) ⟨zeroC E, Dle.refl _ _, trivial⟩
                | trace_state
          | some y =>
            cases W with
            | none => cases hrs
            | some x =>
              have hk4 : appS l v = appS (l.drop (k.1 + 1)) y := hk4
              have hfo : Sp (cx Tryz.prog mixed tyT_ok E) _ _ (.tup [encV x, dB true]) := hfo
              have hdr : Sp (cx Tryz.prog mixed tyT_ok E) _ _ (encV y) := hdr rfl
              have o2 : y.wt ≤ k.2.wt + (l.getD k.1 default).value.wt + 20000 := o2
              repeat' first
                | (refine codeW_cond rfl ?_; first | (refine condW_dec ?_ ?_ <;> intro _ <;> try (exfalso; first | omega | (rename_i h; exact absurd (hg.symm.trans h) (by decide)))) | refine condW_not ?_ | (refine condW_bool ?_ ?_ <;> intro _ <;> try (exfalso; first | omega | (rename_i h; exact absurd (hg.symm.trans h) (by decide)))))
                | (refine facW_intro ?_; intro _)
                | refine Or.inl ?_
                | ((conv => whnf); first | (refine condW_dec ?_ ?_ <;> intro _ <;> try (exfalso; first | omega | (rename_i h; exact absurd (hg.symm.trans h) (by decide)))) | refine condW_not ?_ | (refine condW_bool ?_ ?_ <;> intro _ <;> try (exfalso; first | omega | (rename_i h; exact absurd (hg.symm.trans h) (by decide)))) | (refine nbC_t (fun _ => ?_) ?_) | (refine nbC_f ?_ (fun _ => ?_)))
                | refine And.intro (by first | omega | (simp only [Int.toNat_natCast] at *; omega) | (simp only [Nat.reduceAdd, Int.cast_ofNat_Int, true_and, and_true]; omega)  | (simp only [cx, view, Nat.reduceAdd, Int.toNat_natCast]; omega) | kernel_rfl) ?_
                | refine RegW.run ?_
                | refine ⟨_, hst, ?_⟩
                | refine ⟨_, hfo, ?_⟩
                | refine ⟨_, hdr, ?_⟩
                | fail
              all_goals first
                | (exfalso; omega)
                | (exfalso; rename_i h; cases h; done)
                | exact ⟨(k.1 + 1, y), ⟨by dsimp only; omega, o1, by dsimp only; omega, hk4⟩, ⟨[], ⟨by kernel_rfl, by kernel_rfl, by kernel_rfl, by kernel_rfl, by kernel_rfl, by kernel_rfl, by kernel_rfl⟩, (by repeat' first | exact trivial | exact rfl | kernel_rfl | exact Dle.of_eq rfl | exact MLe.of_eq rfl | exact Dle.i (by omega) | exact Dle.i (by simp only [Int.toNat_natCast] at *; omega) | exact Dle.nil | exact Dle.rc Dle.nil | exact Option.some_ne_none _ | exact Or.inl rfl | exact Or.inr trivial | omega | (simp only [Int.toNat_natCast] at *; omega) | (intro _ _ _ _; exact Dle.of_eq rfl) | refine And.intro ?_ ?_)⟩, by first | omega | (dsimp only; omega)⟩
                | trace_state
        | false =>
          have hse := put_spR E (partsR (l.getD k.1 default).route) k.2 (l.getD k.1 default).value hpo hk2 (by omega)
          have e1 : outS (l.getD k.1 default) k.2 = setS (stepsC (l.getD k.1 default)) k.2 (l.getD k.1 default).value := by unfold outS; rw [if_neg (by rw [hg]; decide)]
          rw [e1] at o1 o2 hk4
          change Sp (cx Tryz.prog mixed tyT_ok E) _ _ (.tup [encV (setS (stepsC (l.getD k.1 default)) k.2 (l.getD k.1 default).value).1, i64 (setS (stepsC (l.getD k.1 default)) k.2 (l.getD k.1 default).value).2]) at hse
          generalize setS (stepsC (l.getD k.1 default)) k.2 (l.getD k.1 default).value = Q at hse o1 o2 hk4
          obtain ⟨y, e⟩ := Q
          by_cases he : e = 0
          · subst he
            have hk4 : appS l v = appS (l.drop (k.1 + 1)) y := hk4.trans (if_neg (fun h => h rfl))
            have o2 : y.wt ≤ k.2.wt + (l.getD k.1 default).value.wt + 20000 := o2
            repeat' first
              | (refine codeW_cond rfl ?_; first | (refine condW_dec ?_ ?_ <;> intro _ <;> try (exfalso; first | omega | (rename_i h; exact absurd (hg.symm.trans h) (by decide)))) | refine condW_not ?_ | (refine condW_bool ?_ ?_ <;> intro _ <;> try (exfalso; first | omega | (rename_i h; exact absurd (hg.symm.trans h) (by decide)))))
              | (refine facW_intro ?_; intro _)
              | refine Or.inl ?_
              | ((conv => whnf); first | (refine condW_dec ?_ ?_ <;> intro _ <;> try (exfalso; first | omega | (rename_i h; exact absurd (hg.symm.trans h) (by decide)))) | refine condW_not ?_ | (refine condW_bool ?_ ?_ <;> intro _ <;> try (exfalso; first | omega | (rename_i h; exact absurd (hg.symm.trans h) (by decide)))) | (refine nbC_t (fun _ => ?_) ?_) | (refine nbC_f ?_ (fun _ => ?_)))
              | refine And.intro (by first | omega | (simp only [Int.toNat_natCast] at *; omega) | (simp only [Nat.reduceAdd, Int.cast_ofNat_Int, true_and, and_true]; omega)  | (simp only [cx, view, Nat.reduceAdd, Int.toNat_natCast]; omega) | kernel_rfl) ?_
              | refine RegW.run ?_
              | refine ⟨_, hst, ?_⟩
              | refine ⟨_, hse, ?_⟩
              | fail
            all_goals first
              | (exfalso; omega)
              | exact ⟨(k.1 + 1, y), ⟨by dsimp only; omega, o1, by dsimp only; omega, hk4⟩, ⟨[], ⟨by kernel_rfl, by kernel_rfl, by kernel_rfl, by kernel_rfl, by kernel_rfl, by kernel_rfl, by kernel_rfl⟩, (by repeat' first | exact trivial | exact rfl | kernel_rfl | exact Dle.of_eq rfl | exact MLe.of_eq rfl | exact Dle.i (by omega) | exact Dle.i (by simp only [Int.toNat_natCast] at *; omega) | exact Dle.nil | exact Dle.rc Dle.nil | exact Option.some_ne_none _ | exact Or.inl rfl | exact Or.inr trivial | omega | (simp only [Int.toNat_natCast] at *; omega) | (intro _ _ _ _; exact Dle.of_eq rfl) | refine And.intro ?_ ?_)⟩, by first | omega | (dsimp only; omega)⟩
              | trace_state
          · have hk4 : appS l v = (.zero, e) := hk4.trans (if_pos he)
            rw [hk4, if_pos (show ((Vu.zero, e).2 ≠ 0) from he)] at hr
            subst hr
            repeat' first
              | (refine codeW_cond rfl ?_; first | (refine condW_dec ?_ ?_ <;> intro _ <;> try (exfalso; first | omega | (rename_i h; exact absurd (hg.symm.trans h) (by decide)))) | refine condW_not ?_ | (refine condW_bool ?_ ?_ <;> intro _ <;> try (exfalso; first | omega | (rename_i h; exact absurd (hg.symm.trans h) (by decide)))))
              | (refine facW_intro ?_; intro _)
              | refine Or.inl ?_
              | ((conv => whnf); first | (refine condW_dec ?_ ?_ <;> intro _ <;> try (exfalso; first | omega | (rename_i h; exact absurd (hg.symm.trans h) (by decide)))) | refine condW_not ?_ | (refine condW_bool ?_ ?_ <;> intro _ <;> try (exfalso; first | omega | (rename_i h; exact absurd (hg.symm.trans h) (by decide)))) | (refine nbC_t (fun _ => ?_) ?_) | (refine nbC_f ?_ (fun _ => ?_)))
              | refine And.intro (by first | omega | (simp only [Int.toNat_natCast] at *; omega) | (simp only [Nat.reduceAdd, Int.cast_ofNat_Int, true_and, and_true]; omega)  | (simp only [cx, view, Nat.reduceAdd, Int.toNat_natCast]; omega) | kernel_rfl) ?_
              | refine RegW.run ?_
              | refine ⟨_, hst, ?_⟩
              | refine ⟨_, hse, ?_⟩
              | fail
            all_goals first
              | (exfalso; omega)
              | exact Dle.tup (X := (cx Tryz.prog mixed tyT_ok E)) ⟨zeroC E, Dle.refl _ _, trivial⟩
              | trace_state
      · rw [appS_end (by omega)] at hk4
        rw [hk4, if_neg (show ¬ ((k.2, (0 : Int)).2 ≠ 0) from fun h => h rfl)] at hr
        have hr : r = if checkE k.2 ≠ 0 then (.zero, checkE k.2) else (k.2, 0) := hr
        have hcy := refCheck_sp E k.2 (by have := cnt_le_wt k.2; omega)
        generalize checkE k.2 = ey at hcy hr
        by_cases hy : ey = 0
        · subst hy
          have hr := hr.trans (if_neg (fun h => h rfl))
          subst hr
          repeat' first
            | (refine codeW_cond rfl ?_; first | (refine condW_dec ?_ ?_ <;> intro _ <;> try (exfalso; omega)) | refine condW_not ?_ | (refine condW_bool ?_ ?_ <;> intro _ <;> try (exfalso; omega)))
            | (refine facW_intro ?_; intro _)
            | refine Or.inl ?_
            | ((conv => whnf); first | (refine condW_dec ?_ ?_ <;> intro _ <;> try (exfalso; omega)) | refine condW_not ?_ | (refine condW_bool ?_ ?_ <;> intro _ <;> try (exfalso; omega)) | (refine nbC_t (fun _ => ?_) ?_) | (refine nbC_f ?_ (fun _ => ?_)))
            | refine And.intro (by first | omega | (simp only [Int.toNat_natCast] at *; omega) | (simp only [Nat.reduceAdd, Int.cast_ofNat_Int, true_and, and_true]; omega)  | (simp only [cx, view, Nat.reduceAdd, Int.toNat_natCast]; omega) | kernel_rfl) ?_
            | refine RegW.run ?_
            | refine ⟨_, hcy, ?_⟩
            | fail
          all_goals first
            | (exfalso; omega)
            | exact Dle.tup (X := (cx Tryz.prog mixed tyT_ok E)) ⟨Dle.refl _ _, Dle.refl _ _, trivial⟩
            | trace_state
        · have hr := hr.trans (if_pos hy)
          subst hr
          repeat' first
            | (refine codeW_cond rfl ?_; first | (refine condW_dec ?_ ?_ <;> intro _ <;> try (exfalso; omega)) | refine condW_not ?_ | (refine condW_bool ?_ ?_ <;> intro _ <;> try (exfalso; omega)))
            | (refine facW_intro ?_; intro _)
            | refine Or.inl ?_
            | ((conv => whnf); first | (refine condW_dec ?_ ?_ <;> intro _ <;> try (exfalso; omega)) | refine condW_not ?_ | (refine condW_bool ?_ ?_ <;> intro _ <;> try (exfalso; omega)) | (refine nbC_t (fun _ => ?_) ?_) | (refine nbC_f ?_ (fun _ => ?_)))
            | refine And.intro (by first | omega | (simp only [Int.toNat_natCast] at *; omega) | (simp only [Nat.reduceAdd, Int.cast_ofNat_Int, true_and, and_true]; omega)  | (simp only [cx, view, Nat.reduceAdd, Int.toNat_natCast]; omega) | kernel_rfl) ?_
            | refine RegW.run ?_
            | refine ⟨_, hcy, ?_⟩
            | fail
          all_goals first
            | (exfalso; omega)
            | exact Dle.tup (X := (cx Tryz.prog mixed tyT_ok E)) ⟨zeroC E, Dle.refl _ _, trivial⟩
            | trace_state
  · rw [if_pos h1] at hr
    subst hr
    refine Sp.body Tryz.func10 (by kernel_rfl) rfl (by kernel_rfl) (by kernel_rfl) (by kernel_rfl) ?_
    repeat' first
      | (refine codeW_cond rfl ?_; first | (refine condW_dec ?_ ?_ <;> intro _ <;> try (exfalso; omega)) | refine condW_not ?_ | (refine condW_bool ?_ ?_ <;> intro _ <;> try (exfalso; omega)))
      | (refine facW_intro ?_; intro _)
      | refine Or.inl ?_
      | ((conv => whnf); first | (refine condW_dec ?_ ?_ <;> intro _ <;> try (exfalso; omega)) | refine condW_not ?_ | (refine condW_bool ?_ ?_ <;> intro _ <;> try (exfalso; omega)) | (refine nbC_t (fun _ => ?_) ?_) | (refine nbC_f ?_ (fun _ => ?_)))
      | refine And.intro (by first | omega | (simp only [Int.toNat_natCast] at *; omega) | (simp only [Nat.reduceAdd, Int.cast_ofNat_Int, true_and, and_true]; omega)  | (simp only [cx, view, Nat.reduceAdd, Int.toNat_natCast]; omega) | kernel_rfl) ?_
      | refine RegW.run ?_
      | refine ⟨_, hc, ?_⟩
      | fail
    all_goals first
      | (exfalso; omega)
      | exact Dle.tup (X := (cx Tryz.prog mixed tyT_ok E)) ⟨zeroC E, Dle.refl _ _, trivial⟩
      | trace_state
end
end ap
end Go.Proofs.YtjbgafbijamckaaGreatDoor
namespace Go.Proofs.YtjbgafbijamckaaGreatDoor
open Go.RowKit
set_option linter.unusedVariables false
set_option linter.unusedSimpArgs false
namespace ap
open cr se
theorem gcell_eq (c : Chg) (j : Nat) (hj : j < 8) : (encG c).cells.getD j .opq = c.cell j := by
  match j, hj with
  | 0, _ => rfl
  | 1, _ => rfl
  | 2, _ => rfl
  | 3, _ => rfl
  | 4, _ => rfl
  | 5, _ => rfl
  | 6, _ => rfl
  | 7, _ => rfl
theorem chgs_of : ∀ (l : List (List DD × Nat)), (∀ x ∈ l, (∃ c : Chg, x.1 = (encG c).cells ∧ c.wt ≤ x.2) ∧ x.1.length = 8) → ∃ cs : List Chg, cs.length = l.length ∧ (∀ i, i < l.length → (l.getD i ([], 0)).1 = (encG (cs.getD i default)).cells) ∧ (cs.map Chg.wt).sum ≤ (l.map (·.2)).sum
  | [], _ => ⟨[], rfl, fun i hi => by simp at hi, Nat.zero_le _⟩
  | x :: l, h => by
    obtain ⟨vs, h2, h3, h4⟩ := chgs_of l (fun y hy => h y (List.mem_cons_of_mem _ hy))
    obtain ⟨⟨v, h6, h7⟩, _⟩ := h x List.mem_cons_self
    refine ⟨v :: vs, by simp [h2], fun i hi => ?_, ?_⟩
    · match i, hi with
      | 0, _ => exact h6
      | i + 1, hi => exact h3 i (by simpa using hi)
    · simp only [List.map_cons, List.sum_cons]
      omega
section
variable (E : Env)
theorem opn_change (N : Nat) : Opn (cx Tryz.prog mixed tyT_ok E) N 50 (fun ds n => ∃ c : Chg, ds = (encG c).cells ∧ c.wt ≤ n) := by
  refine Opn.le (Opn.mono (opn_struct (X := (cx Tryz.prog mixed tyT_ok E)) (N := N) Tryz.underlying50 (by kernel_rfl) (by kernel_rfl) (by kernel_rfl) (Rs := [_, _, _])
    ⟨opn_str (X := (cx Tryz.prog mixed tyT_ok E)) Tryz.underlying9, opn_val E N, opn_bool (X := (cx Tryz.prog mixed tyT_ok E)) Tryz.underlying4, trivial⟩) ?_) (Nat.le_succ _)
  rintro ds n ⟨_, _, _, _, ⟨s, hs, rfl, rfl⟩, ⟨_, _, _, _, ⟨v, hv, rfl, hvw⟩, ⟨_, _, _, _, ⟨b, rfl, rfl⟩, ⟨rfl, rfl⟩, rfl, rfl⟩, rfl, rfl⟩, rfl, rfl⟩
  refine ⟨_, _, ⟨⟨s, v, b⟩, rfl, Nat.le_refl _⟩, ?_, ⟨Dle.refl _ _, Dle.refl _ _, Dle.refl _ _, Dle.refl _ _, Dle.refl _ _, Dle.refl _ _, Dle.refl _ _, Dle.refl _ _, trivial⟩⟩
  simp only [Chg.wt]
  omega
theorem opn_changes (N : Nat) : Opn (cx Tryz.prog mixed tyT_ok E) N 31 (fun ds n => ∃ d : DD, ds = [d] ∧ ∃ l : List Chg, d = encGs l ∧ (l.map Chg.wt).sum ≤ n) := by
  refine Opn.le (Opn.mono (opn_slice (X := (cx Tryz.prog mixed tyT_ok E)) Tryz.underlying31 (by kernel_rfl) (opn_change E N)) ?_) (Nat.le_succ _)
  rintro ds n ⟨l, hl, hb, rfl, rfl⟩
  obtain ⟨vs, h2, h3, h4⟩ := chgs_of l hl
  refine ⟨_, _, ⟨_, rfl, vs, rfl, h4⟩, Nat.le_refl _, ⟨?_, trivial⟩⟩
  refine Dle.sl (X := (cx Tryz.prog mixed tyT_ok E)) (show l.length = vs.length from h2.symm) (fun i j hi hj => Dle.of_eq ?_)
  rw [h3 i hi]
  exact gcell_eq _ _ hj
set_option maxRecDepth 100000
theorem confApplies_sp (hML : ∀ w, E.G w → ML w) (v : Vu) (l : List Chg) (hw : v.wt ≤ 2000000) (hl : (l.map Chg.wt).sum ≤ 2000000) : Sp (cx Tryz.prog mixed tyT_ok E) 4 [encV v, encGs l] (dB true) := by
  have h1 := cApply_sp E hML v l hw hl
  have h2 := applyOf_sp E hML v l hw hl
  have h3 := sameSelf_sp E (appR v l).1
  generalize appR v l = r at h1 h2 h3
  refine Sp.body Tryz.func4 (by kernel_rfl) rfl (by kernel_rfl) (by kernel_rfl) (by kernel_rfl) ?_
  repeat' first
    | (refine codeW_cond rfl ?_; first | (refine condW_dec ?_ ?_ <;> intro _ <;> try (exfalso; omega)) | refine condW_not ?_ | (refine condW_bool ?_ ?_ <;> intro _ <;> try (exfalso; omega)))
    | (refine facW_intro ?_; intro _)
    | refine Or.inl ?_
    | ((conv => whnf); first | (refine condW_dec ?_ ?_ <;> intro _) | refine condW_not ?_ | (refine condW_bool ?_ ?_ <;> intro _) | (refine nbC_t (fun _ => ?_) ?_) | (refine nbC_f ?_ (fun _ => ?_)))
    | refine And.intro (by first | omega | (simp only [Int.toNat_natCast] at *; omega) | (simp only [Nat.reduceAdd, Int.cast_ofNat_Int, true_and, and_true]; omega)  | (simp only [cx, view, Nat.reduceAdd, Int.toNat_natCast]; omega) | kernel_rfl) ?_
    | refine RegW.run ?_
    | refine ⟨_, h1, ?_⟩
    | refine ⟨_, h2, ?_⟩
    | refine ⟨_, h3, ?_⟩
    | fail
  all_goals first
    | (exfalso; rename_i h; exact h rfl)
    | exact Dle.bo (by simp)
    | trace_state
end
end ap
end Go.Proofs.YtjbgafbijamckaaGreatDoor
