/-
  The program's Set. The program's Fill.
-/
import Derived.Test.YtjbgafbijamckaaGreatDoorSe5
import Derived.Test.YtjbgafbijamckaaGreatDoorFi0
namespace Go.Proofs.YtjbgafbijamckaaGreatDoor
open Go.RowKit
set_option linter.unusedVariables false
set_option linter.unusedSimpArgs false
namespace se
open cr
section
variable (E : Env)
set_option maxRecDepth 100000
set_option maxHeartbeats 8000000 in
theorem cSet_sp (hML : ∀ w, E.G w → ML w) (v : Vu) (s : ByteArray) (x : Vu) (hw : v.wt ≤ 100000000) (hx : x.wt ≤ 100000000) (hs : s.size ≤ 100000000) : Sp (cx Tryz.prog mixed tyT_ok E) 6 [encV v, dS s, encV x] (.tup [encV (setR v s x).1, i64 (setR v s x).2]) := by
  have hcv := check_sp E v (by have := cnt_le_wt v; omega)
  have hcx := check_sp E x (by have := cnt_le_wt x; omega)
  have hst := steps_sp E hML s false (by omega)
  have hf := @check_ok v
  obtain ⟨r, hr⟩ : ∃ r, r = setR v s x := ⟨_, rfl⟩
  rw [← hr]
  unfold setR at hr
  generalize checkE v = ev at hcv hf hr
  generalize checkE x = ex at hcx hr
  refine Sp.body Tryz.func6 (by kernel_rfl) rfl (by kernel_rfl) (by kernel_rfl) (by kernel_rfl) ?_
  repeat' first
    | (refine codeW_cond rfl ?_; first | (refine condW_dec ?_ ?_ <;> intro _ <;> try (exfalso; omega)) | refine condW_not ?_ | (refine condW_bool ?_ ?_ <;> intro _ <;> try (exfalso; omega)))
    | (refine facW_intro ?_; intro _)
    | refine Or.inl ?_
    | ((conv => whnf); first | (refine condW_dec ?_ ?_ <;> intro _ <;> try (exfalso; omega)) | refine condW_not ?_ | (refine condW_bool ?_ ?_ <;> intro _ <;> try (exfalso; omega)) | (refine nbC_t (fun _ => ?_) ?_) | (refine nbC_f ?_ (fun _ => ?_)))
    | refine And.intro (by first | omega | (simp only [Int.toNat_natCast] at *; omega) | (simp only [Nat.reduceAdd, Int.cast_ofNat_Int, true_and, and_true]; omega)  | (simp only [cx, view, Nat.reduceAdd, Int.toNat_natCast]; omega) | kernel_rfl) ?_
    | refine RegW.run ?_
    | fail
  refine ⟨Nat, fun k => [(19, i64 k)], fun k => [], [3, 5, 6, 17], fun k => [], fun k => k ≤ 2 ∧ (0 < k → ev = 0) ∧ (1 < k → ex = 0), fun k => 2 - k, ⟨0, ⟨by omega, fun h => by omega, fun h => by omega⟩, ⟨[], ⟨by kernel_rfl, by kernel_rfl, by kernel_rfl, by kernel_rfl, by kernel_rfl, by kernel_rfl, by kernel_rfl⟩, (by repeat' first | exact trivial | exact rfl | kernel_rfl | exact Dle.of_eq rfl | exact MLe.of_eq rfl | exact Dle.i (by omega) | exact Dle.i (by simp only [Int.toNat_natCast] at *; omega) | exact Dle.nil | exact Dle.rc Dle.nil | exact Option.some_ne_none _ | exact Or.inl rfl | exact Or.inr trivial | omega | (simp only [Int.toNat_natCast] at *; omega) | (intro _ _ _ _; exact Dle.of_eq rfl) | refine And.intro ?_ ?_)⟩⟩, fun k hk => ?_⟩
  obtain ⟨hk, hv0, hx0⟩ := hk
  obtain rfl | rfl | rfl : k = 0 ∨ k = 1 ∨ k = 2 := by omega
  · clear hcx hst hf hv0 hx0
    repeat' first
      | (refine codeW_cond rfl ?_; first | (refine condW_dec ?_ ?_ <;> intro _ <;> try (exfalso; omega)) | refine condW_not ?_ | (refine condW_bool ?_ ?_ <;> intro _ <;> try (exfalso; omega)))
      | (refine facW_intro ?_; intro _)
      | refine Or.inl ?_
      | ((conv => whnf); first | (refine condW_dec ?_ ?_ <;> intro _ <;> try (exfalso; omega)) | refine condW_not ?_ | (refine condW_bool ?_ ?_ <;> intro _ <;> try (exfalso; omega)) | (refine nbC_t (fun _ => ?_) ?_) | (refine nbC_f ?_ (fun _ => ?_)))
      | refine And.intro (by first | omega | (simp only [Int.toNat_natCast] at *; omega) | (simp only [Nat.reduceAdd, Int.cast_ofNat_Int, true_and, and_true]; omega)  | (simp only [cx, view, Nat.reduceAdd, Int.toNat_natCast]; omega) | kernel_rfl) ?_
      | refine RegW.run ?_
      | refine ⟨_, hcv, ?_⟩
      | fail
    all_goals first
      | (exfalso; omega)
      | (rename_i h; have h0 : ev = 0 := (by omega); exact ⟨1, ⟨by omega, fun _ => h0, fun h => by omega⟩, ⟨[], ⟨by kernel_rfl, by kernel_rfl, by kernel_rfl, by kernel_rfl, by kernel_rfl, by kernel_rfl, by kernel_rfl⟩, (by repeat' first | exact trivial | exact rfl | kernel_rfl | exact Dle.of_eq rfl | exact MLe.of_eq rfl | exact Dle.i (by omega) | exact Dle.i (by simp only [Int.toNat_natCast] at *; omega) | exact Dle.nil | exact Dle.rc Dle.nil | exact Option.some_ne_none _ | exact Or.inl rfl | exact Or.inr trivial | omega | (simp only [Int.toNat_natCast] at *; omega) | (intro _ _ _ _; exact Dle.of_eq rfl) | refine And.intro ?_ ?_)⟩, by first | omega | (dsimp only; omega)⟩)
      | (rename_i h; have h0 : ev ≠ 0 := (by omega); rw [if_pos h0] at hr; subst hr; exact Dle.tup (X := (cx Tryz.prog mixed tyT_ok E)) ⟨zeroC E, Dle.refl _ _, trivial⟩)
      | trace_state
  · have h1 := hv0 (by omega)
    subst h1
    rw [if_neg (show ¬ ((0 : Int) ≠ 0) from fun h2 => h2 rfl)] at hr
    clear hcv hst hf hv0 hx0
    repeat' first
      | (refine codeW_cond rfl ?_; first | (refine condW_dec ?_ ?_ <;> intro _ <;> try (exfalso; omega)) | refine condW_not ?_ | (refine condW_bool ?_ ?_ <;> intro _ <;> try (exfalso; omega)))
      | (refine facW_intro ?_; intro _)
      | refine Or.inl ?_
      | ((conv => whnf); first | (refine condW_dec ?_ ?_ <;> intro _ <;> try (exfalso; omega)) | refine condW_not ?_ | (refine condW_bool ?_ ?_ <;> intro _ <;> try (exfalso; omega)) | (refine nbC_t (fun _ => ?_) ?_) | (refine nbC_f ?_ (fun _ => ?_)))
      | refine And.intro (by first | omega | (simp only [Int.toNat_natCast] at *; omega) | (simp only [Nat.reduceAdd, Int.cast_ofNat_Int, true_and, and_true]; omega)  | (simp only [cx, view, Nat.reduceAdd, Int.toNat_natCast]; omega) | kernel_rfl) ?_
      | refine RegW.run ?_
      | refine ⟨_, hcx, ?_⟩
      | fail
    all_goals first
      | (exfalso; omega)
      | (rename_i h; have h0 : ex = 0 := (by omega); exact ⟨2, ⟨by omega, fun _ => rfl, fun _ => h0⟩, ⟨[], ⟨by kernel_rfl, by kernel_rfl, by kernel_rfl, by kernel_rfl, by kernel_rfl, by kernel_rfl, by kernel_rfl⟩, (by repeat' first | exact trivial | exact rfl | kernel_rfl | exact Dle.of_eq rfl | exact MLe.of_eq rfl | exact Dle.i (by omega) | exact Dle.i (by simp only [Int.toNat_natCast] at *; omega) | exact Dle.nil | exact Dle.rc Dle.nil | exact Option.some_ne_none _ | exact Or.inl rfl | exact Or.inr trivial | omega | (simp only [Int.toNat_natCast] at *; omega) | (intro _ _ _ _; exact Dle.of_eq rfl) | refine And.intro ?_ ?_)⟩, by first | omega | (dsimp only; omega)⟩)
      | (rename_i h; have h0 : ex ≠ 0 := (by omega); rw [if_pos h0] at hr; subst hr; exact Dle.tup (X := (cx Tryz.prog mixed tyT_ok E)) ⟨zeroC E, Dle.refl _ _, trivial⟩)
      | trace_state
  · have h1 := hv0 (by omega)
    have h2 := hx0 (by omega)
    have hfv := hf h1
    subst h1 h2
    rw [if_neg (show ¬ ((0 : Int) ≠ 0) from fun h2 => h2 rfl), if_neg (show ¬ ((0 : Int) ≠ 0) from fun h2 => h2 rfl)] at hr
    clear hcv hcx hf hv0 hx0
    cases ho : routeOk false s
    · rw [ho] at hst hr
      have hr := hr.trans (if_pos rfl)
      subst hr
      repeat' first
        | (refine codeW_cond rfl ?_; first | (refine condW_dec ?_ ?_ <;> intro _ <;> try (exfalso; omega)) | refine condW_not ?_ | (refine condW_bool ?_ ?_ <;> intro _ <;> try (exfalso; omega)))
        | (refine facW_intro ?_; intro _)
        | refine Or.inl ?_
        | ((conv => whnf); first | (refine condW_dec ?_ ?_ <;> intro _ <;> try (exfalso; omega)) | refine condW_not ?_ | (refine condW_bool ?_ ?_ <;> intro _ <;> try (exfalso; omega)) | (refine nbC_t (fun _ => ?_) ?_) | (refine nbC_f ?_ (fun _ => ?_)))
        | refine And.intro (by first | omega | (simp only [Int.toNat_natCast] at *; omega) | (simp only [Nat.reduceAdd, Int.cast_ofNat_Int, true_and, and_true]; omega)  | (simp only [cx, view, Nat.reduceAdd, Int.toNat_natCast]; omega) | kernel_rfl) ?_
        | refine RegW.run ?_
        | refine ⟨_, hst, ?_⟩
        | fail
      all_goals first
        | (exfalso; omega)
        | (exfalso; rename_i h; cases h; done)
        | exact Dle.tup (X := (cx Tryz.prog mixed tyT_ok E)) ⟨zeroC E, Dle.refl _ _, trivial⟩
        | trace_state
    · have hpo := parts_ok ho
      have hW := route_W ho
      rw [ho, if_pos rfl] at hst
      rw [ho, if_neg (show ¬ (true = false) by decide)] at hr
      have hp := set_sp E ((partsR s).map stepOf) v x (steps_ok _) hfv (by omega)
      have hw2 := setS_wt ((partsR s).map stepOf) v x (steps_ok (partsR s))
      generalize setS ((partsR s).map stepOf) v x = R at hp hr hw2
      obtain ⟨y, e⟩ := R
      have hw2 : y.wt ≤ v.wt + x.wt + stW ((partsR s).map stepOf) := hw2
      have hcy := check_sp E y (by have := cnt_le_wt y; omega)
      have hcl := clone_sp E _ y (Nat.lt_succ_self _) (by omega)
      by_cases he : e = 0
      · subst he
        rw [if_neg (show ¬ ((y, (0 : Int)).2 ≠ 0) from fun h => h rfl)] at hr
        have hr : r = if checkE y ≠ 0 then (.zero, checkE y) else (y, 0) := hr
        generalize checkE y = ey at hcy hr
        by_cases hy : ey = 0
        · subst hy
          have hr := hr.trans (if_neg (fun h => h rfl))
          subst hr
          repeat' first
            | (refine codeW_cond rfl ?_; first | (refine condW_dec ?_ ?_ <;> intro _ <;> try (exfalso; omega)) | refine condW_not ?_ | (refine condW_bool ?_ ?_ <;> intro _ <;> try (exfalso; omega)))
            | (refine facW_intro ?_; intro _)
            | refine Or.inl ?_
            | ((conv => whnf); first | (refine condW_dec ?_ ?_ <;> intro _ <;> try (exfalso; omega)) | refine condW_not ?_ | (refine condW_bool ?_ ?_ <;> intro _ <;> try (exfalso; omega)) | (refine nbC_t (fun _ => ?_) ?_) | (refine nbC_f ?_ (fun _ => ?_)))
            | refine And.intro (by first | omega | (simp only [Int.toNat_natCast] at *; omega) | (simp only [Nat.reduceAdd, Int.cast_ofNat_Int, true_and, and_true]; omega)  | (simp only [cx, view, Nat.reduceAdd, Int.toNat_natCast]; omega) | kernel_rfl) ?_
            | refine RegW.run ?_
            | refine ⟨_, hst, ?_⟩
            | refine ⟨_, hp, ?_⟩
            | refine ⟨_, hcy, ?_⟩
            | refine ⟨_, hcl, ?_⟩
            | fail
          all_goals first
            | (exfalso; omega)
            | (exfalso; rename_i h; cases h; done)
            | exact Dle.tup (X := (cx Tryz.prog mixed tyT_ok E)) ⟨Dle.refl _ _, Dle.refl _ _, trivial⟩
            | trace_state
        · have hr := hr.trans (if_pos hy)
          subst hr
          repeat' first
            | (refine codeW_cond rfl ?_; first | (refine condW_dec ?_ ?_ <;> intro _ <;> try (exfalso; omega)) | refine condW_not ?_ | (refine condW_bool ?_ ?_ <;> intro _ <;> try (exfalso; omega)))
            | (refine facW_intro ?_; intro _)
            | refine Or.inl ?_
            | ((conv => whnf); first | (refine condW_dec ?_ ?_ <;> intro _ <;> try (exfalso; omega)) | refine condW_not ?_ | (refine condW_bool ?_ ?_ <;> intro _ <;> try (exfalso; omega)) | (refine nbC_t (fun _ => ?_) ?_) | (refine nbC_f ?_ (fun _ => ?_)))
            | refine And.intro (by first | omega | (simp only [Int.toNat_natCast] at *; omega) | (simp only [Nat.reduceAdd, Int.cast_ofNat_Int, true_and, and_true]; omega)  | (simp only [cx, view, Nat.reduceAdd, Int.toNat_natCast]; omega) | kernel_rfl) ?_
            | refine RegW.run ?_
            | refine ⟨_, hst, ?_⟩
            | refine ⟨_, hp, ?_⟩
            | refine ⟨_, hcy, ?_⟩
            | fail
          all_goals first
            | (exfalso; omega)
            | (exfalso; rename_i h; cases h; done)
            | exact Dle.tup (X := (cx Tryz.prog mixed tyT_ok E)) ⟨zeroC E, Dle.refl _ _, trivial⟩
            | trace_state
      · have hr := hr.trans (if_pos he)
        have hr : r = (.zero, e) := hr
        subst hr
        repeat' first
          | (refine codeW_cond rfl ?_; first | (refine condW_dec ?_ ?_ <;> intro _ <;> try (exfalso; omega)) | refine condW_not ?_ | (refine condW_bool ?_ ?_ <;> intro _ <;> try (exfalso; omega)))
          | (refine facW_intro ?_; intro _)
          | refine Or.inl ?_
          | ((conv => whnf); first | (refine condW_dec ?_ ?_ <;> intro _ <;> try (exfalso; omega)) | refine condW_not ?_ | (refine condW_bool ?_ ?_ <;> intro _ <;> try (exfalso; omega)) | (refine nbC_t (fun _ => ?_) ?_) | (refine nbC_f ?_ (fun _ => ?_)))
          | refine And.intro (by first | omega | (simp only [Int.toNat_natCast] at *; omega) | (simp only [Nat.reduceAdd, Int.cast_ofNat_Int, true_and, and_true]; omega)  | (simp only [cx, view, Nat.reduceAdd, Int.toNat_natCast]; omega) | kernel_rfl) ?_
          | refine RegW.run ?_
          | refine ⟨_, hst, ?_⟩
          | refine ⟨_, hp, ?_⟩
          | fail
        all_goals first
          | (exfalso; omega)
          | (exfalso; rename_i h; cases h; done)
          | exact Dle.tup (X := (cx Tryz.prog mixed tyT_ok E)) ⟨zeroC E, Dle.refl _ _, trivial⟩
          | trace_state
end
end se
end Go.Proofs.YtjbgafbijamckaaGreatDoor
namespace Go.Proofs.YtjbgafbijamckaaGreatDoor
open Go.RowKit
set_option linter.unusedVariables false
set_option linter.unusedSimpArgs false
namespace fi
open cr se
section
variable (E : Env)
set_option maxRecDepth 100000
set_option maxHeartbeats 8000000 in
theorem cFill_sp (hML : ∀ w, E.G w → ML w) (l : List Fd) (b : Bool) (v : Vu) (hl : fdOk l) (hlen : l.length ≤ 1000000000) (hw : v.wt ≤ 2000000) (hd : (l.map fun f => f.dflt.wt).sum ≤ 2000000) : Sp (cx Tryz.prog mixed tyT_ok E) 11 [.agg [encFs l, dB b], encV v] (.tup [encV (fillR l v).1, i64 (fillR l v).2]) := by
  have hcs := checkSchema_sp E hML l b hl hlen
  have hc := check_sp E v (by have := cnt_le_wt v; omega)
  have hso := @schema_ok l
  have hck := @check_ok v
  obtain ⟨r, hr⟩ : ∃ r, r = fillR l v := ⟨_, rfl⟩
  rw [← hr]
  unfold fillR at hr
  generalize schemaE l = es at hcs hr hso
  obtain ⟨ev, hev⟩ : ∃ e, e = checkE v := ⟨_, rfl⟩
  rw [← hev] at hc hr hck
  by_cases h1 : es = 0
  · obtain ⟨hl1, hl2⟩ := hso h1
    have hfs := fsum_le l
    subst h1
    rw [if_neg (show ¬ ((0 : Int) ≠ 0) from fun h => h rfl)] at hr
    by_cases h2 : ev = 0
    · have hfv := hck h2
      clear hck
      rw [h2] at hc hr hev
      rw [if_neg (show ¬ ((0 : Int) ≠ 0) from fun h => h rfl)] at hr
      refine Sp.body Tryz.func11 (by kernel_rfl) rfl (by kernel_rfl) (by kernel_rfl) (by kernel_rfl) ?_
      repeat' first
        | (refine codeW_cond rfl ?_; first | (refine condW_dec ?_ ?_ <;> intro _ <;> try (exfalso; omega)) | refine condW_not ?_ | (refine condW_bool ?_ ?_ <;> intro _ <;> try (exfalso; omega)))
        | (refine facW_intro ?_; intro _)
        | refine Or.inl ?_
        | ((conv => whnf); first | (refine condW_dec ?_ ?_ <;> intro _ <;> try (exfalso; omega)) | refine condW_not ?_ | (refine condW_bool ?_ ?_ <;> intro _ <;> try (exfalso; omega)) | (refine nbC_t (fun _ => ?_) ?_) | (refine nbC_f ?_ (fun _ => ?_)))
        | refine And.intro (by first | omega | (simp only [Int.toNat_natCast] at *; omega) | (simp only [Nat.reduceAdd, Int.cast_ofNat_Int, true_and, and_true]; omega)  | (simp only [cx, view, Nat.reduceAdd, Int.toNat_natCast]; omega) | kernel_rfl) ?_
        | refine RegW.run ?_
        | refine ⟨_, hcs, ?_⟩
        | refine ⟨_, hc, ?_⟩
        | fail
      refine ⟨Nat × Vu, fun k => [(31, i64 k.1)], fun k => [(3, .cells [i64 k.2.kind, dB k.2.b, i64 k.2.i, dS k.2.text, .rc (.vals k.2.items), encStrs k.2.keys])], [2, 4], fun k => [], fun k => k.1 ≤ l.length ∧ checkE k.2 = 0 ∧ k.2.wt + fsum (l.drop k.1) ≤ v.wt + fsum l ∧ r = fillS (l.drop k.1) k.2, fun k => l.length - k.1, ⟨(0, v), ⟨by omega, hev.symm, Nat.le_refl _, hr⟩, ⟨[], ⟨by kernel_rfl, by kernel_rfl, by kernel_rfl, by kernel_rfl, by kernel_rfl, by kernel_rfl, by kernel_rfl⟩, (by repeat' first | exact trivial | exact rfl | kernel_rfl | exact Dle.of_eq rfl | exact MLe.of_eq rfl | exact Dle.i (by omega) | exact Dle.i (by simp only [Int.toNat_natCast] at *; omega) | exact Dle.nil | exact Dle.rc Dle.nil | exact Option.some_ne_none _ | exact Or.inl rfl | exact Or.inr trivial | omega | (simp only [Int.toNat_natCast] at *; omega) | (intro _ _ _ _; exact Dle.of_eq rfl) | refine And.intro ?_ ?_)⟩⟩, fun k hk => ?_⟩
      obtain ⟨hk1, hk2, hk3, hk4⟩ := hk
      clear hcs hc hr hev
      have hkf := check_ok hk2
      by_cases hlt : k.1 < l.length
      · obtain ⟨g1, g2, g3, g4⟩ := field_ok (hl2 k.1 hlt)
        have hfw := fwt_at l k.1 hlt
        have hrs := (hl _ (getD_mem l default k.1 hlt)).2
        rw [fsum_drop hlt] at hk3
        rw [fillS_drop hlt] at hk4
        have hst := steps_sp E hML (l.getD k.1 default).route true (by omega)
        rw [g1, if_pos rfl] at hst
        by_cases hd0 : (l.getD k.1 default).dflt.kind = 0
        · have hk4 := hk4.trans (if_pos (.inl hd0))
          repeat' first
            | (refine codeW_cond rfl ?_; first | (refine condW_dec ?_ ?_ <;> intro _ <;> try (exfalso; first | omega | (rename_i h; exact h hd0))) | refine condW_not ?_ | (refine condW_bool ?_ ?_ <;> intro _ <;> try (exfalso; first | omega | (rename_i h; exact h hd0))))
            | (refine facW_intro ?_; intro _)
            | refine Or.inl ?_
            | ((conv => whnf); first | (refine condW_dec ?_ ?_ <;> intro _ <;> try (exfalso; first | omega | (rename_i h; exact h hd0))) | refine condW_not ?_ | (refine condW_bool ?_ ?_ <;> intro _ <;> try (exfalso; first | omega | (rename_i h; exact h hd0))) | (refine nbC_t (fun _ => ?_) ?_) | (refine nbC_f ?_ (fun _ => ?_)))
            | refine And.intro (by first | omega | (simp only [Int.toNat_natCast] at *; omega) | (simp only [Nat.reduceAdd, Int.cast_ofNat_Int, true_and, and_true]; omega)  | (simp only [cx, view, Nat.reduceAdd, Int.toNat_natCast]; omega) | kernel_rfl) ?_
            | refine RegW.run ?_
            | refine ⟨_, hst, ?_⟩
            | fail
          all_goals first
            | (exfalso; omega)
            | exact ⟨(k.1 + 1, k.2), ⟨by dsimp only; omega, hk2, by dsimp only; omega, hk4⟩, ⟨[], ⟨by kernel_rfl, by kernel_rfl, by kernel_rfl, by kernel_rfl, by kernel_rfl, by kernel_rfl, by kernel_rfl⟩, (by repeat' first | exact trivial | exact rfl | kernel_rfl | exact Dle.of_eq rfl | exact MLe.of_eq rfl | exact Dle.i (by omega) | exact Dle.i (by simp only [Int.toNat_natCast] at *; omega) | exact Dle.nil | exact Dle.rc Dle.nil | exact Option.some_ne_none _ | exact Or.inl rfl | exact Or.inr trivial | omega | (simp only [Int.toNat_natCast] at *; omega) | (intro _ _ _ _; exact Dle.of_eq rfl) | refine And.intro ?_ ?_)⟩, by first | omega | (dsimp only; omega)⟩
            | trace_state
        · have g5 := no_star g1 g2 (g4 hd0)
          have hpo := parts_ok g5
          have hge := get_sp E k.2 (stepsF (l.getD k.1 default)) (steps_ok _) hkf (by omega)
          have h8 : ¬ (400 : Int) < (l.getD k.1 default).route.size := fun h2 => by rw [routeOk_long h2] at g5; cases g5
          have hse := cSet_sp E hML k.2 (l.getD k.1 default).route (l.getD k.1 default).dflt (by omega) (by omega) (by omega)
          have hsw := setR_wt k.2 (l.getD k.1 default).route (l.getD k.1 default).dflt
          have hsk := @setR_ok k.2 (l.getD k.1 default).dflt (l.getD k.1 default).route
          generalize setR k.2 (l.getD k.1 default).route (l.getD k.1 default).dflt = Q at hse hsw hsk hk4
          obtain ⟨y, e⟩ := Q
          change Sp (cx Tryz.prog mixed tyT_ok E) _ _ (.tup [encV ((getS (stepsF (l.getD k.1 default)) k.2).getD .zero), dB (getS (stepsF (l.getD k.1 default)) k.2).isSome]) at hge
          generalize getS (stepsF (l.getD k.1 default)) k.2 = W at hge hk4
          cases W with
          | some q =>
            have hk4 := hk4.trans (if_pos (.inr rfl))
            have hge : Sp (cx Tryz.prog mixed tyT_ok E) _ _ (.tup [encV q, dB true]) := hge
            repeat' first
              | (refine codeW_cond rfl ?_; first | (refine condW_dec ?_ ?_ <;> intro _ <;> try (exfalso; first | omega | (rename_i h; exact hd0 h))) | refine condW_not ?_ | (refine condW_bool ?_ ?_ <;> intro _ <;> try (exfalso; first | omega | (rename_i h; exact hd0 h))))
              | (refine facW_intro ?_; intro _)
              | refine Or.inl ?_
              | ((conv => whnf); first | (refine condW_dec ?_ ?_ <;> intro _ <;> try (exfalso; first | omega | (rename_i h; exact hd0 h))) | refine condW_not ?_ | (refine condW_bool ?_ ?_ <;> intro _ <;> try (exfalso; first | omega | (rename_i h; exact hd0 h))) | (refine nbC_t (fun _ => ?_) ?_) | (refine nbC_f ?_ (fun _ => ?_)))
              | refine And.intro (by first | omega | (simp only [Int.toNat_natCast] at *; omega) | (simp only [Nat.reduceAdd, Int.cast_ofNat_Int, true_and, and_true]; omega)  | (simp only [cx, view, Nat.reduceAdd, Int.toNat_natCast]; omega) | kernel_rfl) ?_
              | refine RegW.run ?_
              | refine ⟨_, hst, ?_⟩
              | refine ⟨_, hge, ?_⟩
              | fail
            all_goals first
              | (exfalso; omega)
              | (exfalso; rename_i h; cases h; done)
              | exact ⟨(k.1 + 1, k.2), ⟨by dsimp only; omega, hk2, by dsimp only; omega, hk4⟩, ⟨[], ⟨by kernel_rfl, by kernel_rfl, by kernel_rfl, by kernel_rfl, by kernel_rfl, by kernel_rfl, by kernel_rfl⟩, (by repeat' first | exact trivial | exact rfl | kernel_rfl | exact Dle.of_eq rfl | exact MLe.of_eq rfl | exact Dle.i (by omega) | exact Dle.i (by simp only [Int.toNat_natCast] at *; omega) | exact Dle.nil | exact Dle.rc Dle.nil | exact Option.some_ne_none _ | exact Or.inl rfl | exact Or.inr trivial | omega | (simp only [Int.toNat_natCast] at *; omega) | (intro _ _ _ _; exact Dle.of_eq rfl) | refine And.intro ?_ ?_)⟩, by first | omega | (dsimp only; omega)⟩
              | trace_state
          | none =>
            have hk4 := hk4.trans (if_neg (fun h => h.elim hd0 (fun h => by cases h)))
            have hge : Sp (cx Tryz.prog mixed tyT_ok E) _ _ (.tup [encV .zero, dB false]) := hge
            by_cases he : e = 0
            · subst he
              have hk4 := hk4.trans (if_neg (fun h => h rfl))
              have hsw : y.wt ≤ k.2.wt + (l.getD k.1 default).dflt.wt + 20000 := hsw
              have hsk : checkE y = 0 := hsk rfl
              repeat' first
                | (refine codeW_cond rfl ?_; first | (refine condW_dec ?_ ?_ <;> intro _ <;> try (exfalso; first | omega | (rename_i h; exact hd0 h))) | refine condW_not ?_ | (refine condW_bool ?_ ?_ <;> intro _ <;> try (exfalso; first | omega | (rename_i h; exact hd0 h))))
                | (refine facW_intro ?_; intro _)
                | refine Or.inl ?_
                | ((conv => whnf); first | (refine condW_dec ?_ ?_ <;> intro _ <;> try (exfalso; first | omega | (rename_i h; exact hd0 h))) | refine condW_not ?_ | (refine condW_bool ?_ ?_ <;> intro _ <;> try (exfalso; first | omega | (rename_i h; exact hd0 h))) | (refine nbC_t (fun _ => ?_) ?_) | (refine nbC_f ?_ (fun _ => ?_)))
                | refine And.intro (by first | omega | (simp only [Int.toNat_natCast] at *; omega) | (simp only [Nat.reduceAdd, Int.cast_ofNat_Int, true_and, and_true]; omega)  | (simp only [cx, view, Nat.reduceAdd, Int.toNat_natCast]; omega) | kernel_rfl) ?_
                | refine RegW.run ?_
                | refine ⟨_, hst, ?_⟩
                | refine ⟨_, hge, ?_⟩
                | refine ⟨_, hse, ?_⟩
                | fail
              all_goals first
                | (exfalso; omega)
                | (exfalso; rename_i h; cases h; done)
                | exact ⟨(k.1 + 1, y), ⟨by dsimp only; omega, hsk, by dsimp only; omega, hk4⟩, ⟨[], ⟨by kernel_rfl, by kernel_rfl, by kernel_rfl, by kernel_rfl, by kernel_rfl, by kernel_rfl, by kernel_rfl⟩, (by repeat' first | exact trivial | exact rfl | kernel_rfl | exact Dle.of_eq rfl | exact MLe.of_eq rfl | exact Dle.i (by omega) | exact Dle.i (by simp only [Int.toNat_natCast] at *; omega) | exact Dle.nil | exact Dle.rc Dle.nil | exact Option.some_ne_none _ | exact Or.inl rfl | exact Or.inr trivial | omega | (simp only [Int.toNat_natCast] at *; omega) | (intro _ _ _ _; exact Dle.of_eq rfl) | refine And.intro ?_ ?_)⟩, by first | omega | (dsimp only; omega)⟩
                | trace_state
            · have hk4 := hk4.trans (if_pos he)
              subst hk4
              repeat' first
                | (refine codeW_cond rfl ?_; first | (refine condW_dec ?_ ?_ <;> intro _ <;> try (exfalso; first | omega | (rename_i h; exact hd0 h))) | refine condW_not ?_ | (refine condW_bool ?_ ?_ <;> intro _ <;> try (exfalso; first | omega | (rename_i h; exact hd0 h))))
                | (refine facW_intro ?_; intro _)
                | refine Or.inl ?_
                | ((conv => whnf); first | (refine condW_dec ?_ ?_ <;> intro _ <;> try (exfalso; first | omega | (rename_i h; exact hd0 h))) | refine condW_not ?_ | (refine condW_bool ?_ ?_ <;> intro _ <;> try (exfalso; first | omega | (rename_i h; exact hd0 h))) | (refine nbC_t (fun _ => ?_) ?_) | (refine nbC_f ?_ (fun _ => ?_)))
                | refine And.intro (by first | omega | (simp only [Int.toNat_natCast] at *; omega) | (simp only [Nat.reduceAdd, Int.cast_ofNat_Int, true_and, and_true]; omega)  | (simp only [cx, view, Nat.reduceAdd, Int.toNat_natCast]; omega) | kernel_rfl) ?_
                | refine RegW.run ?_
                | refine ⟨_, hst, ?_⟩
                | refine ⟨_, hge, ?_⟩
                | refine ⟨_, hse, ?_⟩
                | fail
              all_goals first
                | (exfalso; omega)
                | (exfalso; rename_i h; cases h; done)
                | exact Dle.tup (X := (cx Tryz.prog mixed tyT_ok E)) ⟨zeroC E, Dle.refl _ _, trivial⟩
                | trace_state
      · rw [fillS_end (by omega)] at hk4
        subst hk4
        have hcl := clone_sp E _ k.2 (Nat.lt_succ_self _) (by omega)
        repeat' first
          | (refine codeW_cond rfl ?_; first | (refine condW_dec ?_ ?_ <;> intro _ <;> try (exfalso; omega)) | refine condW_not ?_ | (refine condW_bool ?_ ?_ <;> intro _ <;> try (exfalso; omega)))
          | (refine facW_intro ?_; intro _)
          | refine Or.inl ?_
          | ((conv => whnf); first | (refine condW_dec ?_ ?_ <;> intro _ <;> try (exfalso; omega)) | refine condW_not ?_ | (refine condW_bool ?_ ?_ <;> intro _ <;> try (exfalso; omega)) | (refine nbC_t (fun _ => ?_) ?_) | (refine nbC_f ?_ (fun _ => ?_)))
          | refine And.intro (by first | omega | (simp only [Int.toNat_natCast] at *; omega) | (simp only [Nat.reduceAdd, Int.cast_ofNat_Int, true_and, and_true]; omega)  | (simp only [cx, view, Nat.reduceAdd, Int.toNat_natCast]; omega) | kernel_rfl) ?_
          | refine RegW.run ?_
          | refine ⟨_, hcl, ?_⟩
          | fail
        all_goals first
          | (exfalso; omega)
          | exact Dle.tup (X := (cx Tryz.prog mixed tyT_ok E)) ⟨Dle.refl _ _, Dle.refl _ _, trivial⟩
          | trace_state
    · rw [if_pos h2] at hr
      subst hr
      refine Sp.body Tryz.func11 (by kernel_rfl) rfl (by kernel_rfl) (by kernel_rfl) (by kernel_rfl) ?_
      repeat' first
        | (refine codeW_cond rfl ?_; first | (refine condW_dec ?_ ?_ <;> intro _ <;> try (exfalso; omega)) | refine condW_not ?_ | (refine condW_bool ?_ ?_ <;> intro _ <;> try (exfalso; omega)))
        | (refine facW_intro ?_; intro _)
        | refine Or.inl ?_
        | ((conv => whnf); first | (refine condW_dec ?_ ?_ <;> intro _ <;> try (exfalso; omega)) | refine condW_not ?_ | (refine condW_bool ?_ ?_ <;> intro _ <;> try (exfalso; omega)) | (refine nbC_t (fun _ => ?_) ?_) | (refine nbC_f ?_ (fun _ => ?_)))
        | refine And.intro (by first | omega | (simp only [Int.toNat_natCast] at *; omega) | (simp only [Nat.reduceAdd, Int.cast_ofNat_Int, true_and, and_true]; omega)  | (simp only [cx, view, Nat.reduceAdd, Int.toNat_natCast]; omega) | kernel_rfl) ?_
        | refine RegW.run ?_
        | refine ⟨_, hcs, ?_⟩
        | refine ⟨_, hc, ?_⟩
        | fail
      all_goals first
        | (exfalso; omega)
        | exact Dle.tup (X := (cx Tryz.prog mixed tyT_ok E)) ⟨zeroC E, Dle.refl _ _, trivial⟩
        | trace_state
  · rw [if_pos h1] at hr
    subst hr
    refine Sp.body Tryz.func11 (by kernel_rfl) rfl (by kernel_rfl) (by kernel_rfl) (by kernel_rfl) ?_
    repeat' first
      | (refine codeW_cond rfl ?_; first | (refine condW_dec ?_ ?_ <;> intro _ <;> try (exfalso; omega)) | refine condW_not ?_ | (refine condW_bool ?_ ?_ <;> intro _ <;> try (exfalso; omega)))
      | (refine facW_intro ?_; intro _)
      | refine Or.inl ?_
      | ((conv => whnf); first | (refine condW_dec ?_ ?_ <;> intro _ <;> try (exfalso; omega)) | refine condW_not ?_ | (refine condW_bool ?_ ?_ <;> intro _ <;> try (exfalso; omega)) | (refine nbC_t (fun _ => ?_) ?_) | (refine nbC_f ?_ (fun _ => ?_)))
      | refine And.intro (by first | omega | (simp only [Int.toNat_natCast] at *; omega) | (simp only [Nat.reduceAdd, Int.cast_ofNat_Int, true_and, and_true]; omega)  | (simp only [cx, view, Nat.reduceAdd, Int.toNat_natCast]; omega) | kernel_rfl) ?_
      | refine RegW.run ?_
      | refine ⟨_, hcs, ?_⟩
      | fail
    all_goals first
      | (exfalso; omega)
      | exact Dle.tup (X := (cx Tryz.prog mixed tyT_ok E)) ⟨zeroC E, Dle.refl _ _, trivial⟩
      | trace_state
end
end fi
end Go.Proofs.YtjbgafbijamckaaGreatDoor
