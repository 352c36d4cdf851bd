/-
  mastref2.SortOf. mastref2.SortOf, the whole.
-/
import Derived.Test.YthoemnhigboahaaGreatDoorSd1
import Derived.Test.YthoemnhigboahaaGreatDoorScC
namespace Go.Proofs.YthoemnhigboahaaGreatDoor
open Go.RowKit
set_option linter.unusedVariables false
set_option linter.unusedSimpArgs false
namespace sc
open sb
section
variable (E : Env)
set_option maxRecDepth 100000
theorem rw_set {n k i j : Nat} (hi : i < n) (hj : j < 1) : Dle (cx Tryz.prog mixed tyT_ok E) (rowSet (fun i _ => if i < k then i64 i else i64 0) (0 + ((k : Int)).toNat) 0 [i64 k] i j) (if i < k + 1 then i64 i else i64 0) := by
  obtain rfl : j = 0 := by omega
  unfold rowSet
  rw [Nat.zero_add, Int.toNat_natCast]
  by_cases h1 : i = k
  · subst h1
    rw [if_pos ⟨rfl, by omega, by simp⟩, if_pos (by omega)]
    exact Dle.refl _ _
  · rw [if_neg (fun h => h1 h.1)]
    show Dle _ (if i < k then i64 i else i64 0) _
    by_cases h2 : i < k
    · rw [if_pos h2, if_pos (by omega)]
      exact Dle.refl _ _
    · rw [if_neg h2, if_neg (by omega)]
      exact Dle.refl _ _
set_option maxHeartbeats 4000000 in
theorem positions_6 (n : Nat) (hn : n ≤ 1000000000) : SpH (cx Tryz.prog mixed tyT_ok E) 49 [i64 n] [] (.own 6 1 0 n) [(6, .row 3 n (rwI id))] := by
  refine SpH.body Tryz.func49 (by kernel_rfl) rfl (by kernel_rfl) (by kernel_rfl) (by kernel_rfl) ?_
  repeat' first
    | (refine codeW_cond rfl ?_; first | (refine condW_dec ?_ ?_ <;> intro _ <;> try (exfalso; omega)) | refine condW_not ?_ | (refine condW_bool ?_ ?_ <;> intro _ <;> try (exfalso; omega)))
    | (refine facW_intro ?_; intro _)
    | refine Or.inl ?_
    | ((conv => whnf); first | (refine condW_dec ?_ ?_ <;> intro _ <;> try (exfalso; omega)) | refine condW_not ?_ | (refine condW_bool ?_ ?_ <;> intro _ <;> try (exfalso; omega)) | (refine nbC_t (fun _ => ?_) ?_) | (refine nbC_f ?_ (fun _ => ?_)))
    | refine And.intro (by first | omega | (simp only [Int.toNat_natCast] at *; omega) | (simp only [Nat.reduceAdd, Int.cast_ofNat_Int, true_and, and_true]; omega)  | kernel_rfl) ?_
    | refine RegW.run ?_
    | fail
  refine ⟨Nat, fun k => [(9, i64 k)], fun k => [(6, .row 3 n (fun i _ => if i < k then i64 i else i64 0))], [], fun k => [], fun k => k ≤ n, fun k => n - k, ⟨0, Nat.zero_le _, ⟨[], ⟨by kernel_rfl, by kernel_rfl, by kernel_rfl, by kernel_rfl, by kernel_rfl, by kernel_rfl, by kernel_rfl⟩, (by repeat' first | ((intro i j hi hj; obtain rfl : j = 0 := (by have h : j < 1 := hj; omega); show Dle _ _ (if i < 0 then _ else _); rw [if_neg (Nat.not_lt_zero i)]; exact Dle.refl _ _)) | exact trivial | exact rfl | kernel_rfl | exact Dle.of_eq rfl | exact MLe.of_eq rfl | exact Dle.i (by omega) | exact Dle.i (by simp only [Int.toNat_natCast] at *; omega) | exact Dle.nil | exact Dle.rc Dle.nil | exact Option.some_ne_none _ | exact Or.inl rfl | exact Or.inr trivial | omega | (simp only [Int.toNat_natCast] at *; omega) | (intro _ _ _ _; exact Dle.of_eq rfl) | refine And.intro ?_ ?_)⟩⟩, fun k hk => ?_⟩
  have hk2 : k ≤ n := hk
  by_cases hlt : k < n
  · repeat' first
      | (refine codeW_cond rfl ?_; first | (refine condW_dec ?_ ?_ <;> intro _ <;> try (exfalso; omega)) | refine condW_not ?_ | (refine condW_bool ?_ ?_ <;> intro _ <;> try (exfalso; omega)))
      | (refine facW_intro ?_; intro _)
      | refine Or.inl ?_
      | ((conv => whnf); first | (refine condW_dec ?_ ?_ <;> intro _ <;> try (exfalso; omega)) | refine condW_not ?_ | (refine condW_bool ?_ ?_ <;> intro _ <;> try (exfalso; omega)) | (refine nbC_t (fun _ => ?_) ?_) | (refine nbC_f ?_ (fun _ => ?_)))
      | refine And.intro (by first | omega | (simp only [Int.toNat_natCast] at *; omega) | (simp only [Nat.reduceAdd, Int.cast_ofNat_Int, true_and, and_true]; omega)  | kernel_rfl) ?_
      | refine RegW.run ?_
      | fail
    all_goals first
      | exact ⟨k + 1, hlt, ⟨[], ⟨by kernel_rfl, by kernel_rfl, by kernel_rfl, by kernel_rfl, by kernel_rfl, by kernel_rfl, by kernel_rfl⟩, (by repeat' first | (first | exact Dle.i (by omega) | (intro i j hi hj; (have h : j < 1 := hj); exact rw_set E hi h)) | exact trivial | exact rfl | kernel_rfl | exact Dle.of_eq rfl | exact MLe.of_eq rfl | exact Dle.i (by omega) | exact Dle.i (by simp only [Int.toNat_natCast] at *; omega) | exact Dle.nil | exact Dle.rc Dle.nil | exact Option.some_ne_none _ | exact Or.inl rfl | exact Or.inr trivial | omega | (simp only [Int.toNat_natCast] at *; omega) | (intro _ _ _ _; exact Dle.of_eq rfl) | refine And.intro ?_ ?_)⟩, by first | omega | (dsimp only; omega)⟩
      | trace_state
  · repeat' first
      | (refine codeW_cond rfl ?_; first | (refine condW_dec ?_ ?_ <;> intro _ <;> try (exfalso; omega)) | refine condW_not ?_ | (refine condW_bool ?_ ?_ <;> intro _ <;> try (exfalso; omega)))
      | (refine facW_intro ?_; intro _)
      | refine Or.inl ?_
      | ((conv => whnf); first | (refine condW_dec ?_ ?_ <;> intro _ <;> try (exfalso; omega)) | refine condW_not ?_ | (refine condW_bool ?_ ?_ <;> intro _ <;> try (exfalso; omega)) | (refine nbC_t (fun _ => ?_) ?_) | (refine nbC_f ?_ (fun _ => ?_)))
      | refine And.intro (by first | omega | (simp only [Int.toNat_natCast] at *; omega) | (simp only [Nat.reduceAdd, Int.cast_ofNat_Int, true_and, and_true]; omega)  | kernel_rfl) ?_
      | refine RegW.run ?_
      | fail
    all_goals first
      | exact ⟨[(6, .row 3 n (rwI id))], [], rfl, ⟨[], ⟨by kernel_rfl, by kernel_rfl, by kernel_rfl, by kernel_rfl, by kernel_rfl, by kernel_rfl, by kernel_rfl⟩, (by repeat' first | ((intro i j hi hj; show Dle _ (if i < k then i64 i else i64 0) _; rw [if_pos (by omega)]; exact Dle.refl _ _)) | exact trivial | exact rfl | kernel_rfl | exact Dle.of_eq rfl | exact MLe.of_eq rfl | exact Dle.i (by omega) | exact Dle.i (by simp only [Int.toNat_natCast] at *; omega) | exact Dle.nil | exact Dle.rc Dle.nil | exact Option.some_ne_none _ | exact Or.inl rfl | exact Or.inr trivial | omega | (simp only [Int.toNat_natCast] at *; omega) | (intro _ _ _ _; exact Dle.of_eq rfl) | refine And.intro ?_ ?_)⟩, rfl⟩
      | trace_state
end
end sc
end Go.Proofs.YthoemnhigboahaaGreatDoor
namespace Go.Proofs.YthoemnhigboahaaGreatDoor
open Go.RowKit
set_option linter.unusedVariables false
set_option linter.unusedSimpArgs false
namespace sc
open sb
section
variable (E : Env)
set_option maxRecDepth 100000
theorem listE_ok {l : List Vu} (h : listE l = 0) : ∀ v ∈ l, itemE v = 0 := fun v hv => by
  unfold listE at h
  split at h
  · cases h
  · exact itemCheck_ok (listL_mem l h v hv)
theorem positions_l (n : Nat) (hn : n ≤ 1000000000) : SpH (cx Tryz.prog mixed tyT_ok E) 49 [i64 n] [] (.own 37 1 0 n) [(37, .row 3 n (rwI id))] := by
  have h := (positions_6 E n hn).swap 6 37
  simpa only [D.renL, D.ren, renH, Ob.ren, swp_l] using h
theorem keyed_l (hML : ∀ w, E.G w → ML w) (ks : List (ByteArray × Bool)) (vl : List Vu) (hv : ∀ v ∈ vl, itemE v = 0) (hks : ks.length ≤ 1000) (hsz : ∀ k ∈ ks, k.1.size ≤ 1000000000) (hvl : vl.length ≤ 1000000000) :
    SpH (cx Tryz.prog mixed tyT_ok E) 50 [.own 37 1 0 vl.length, .fn 51 [.ptr 3 0, .ptr 2 0]] [(37, .row 3 vl.length (rwI id)), (3, .cells [.sl 2 24 ks.length (keyF ks)]), (2, .cells [.rc (.vals vl)])] (.tup []) [(37, .row 3 vl.length (rwI (sA (keyB ks vl) 0 vl.length))), (3, .cells [.sl 2 24 ks.length (keyF ks)]), (2, .cells [.rc (.vals vl)])] := by
  have h := (sortStable_c E vl.length 2 24 ks.length hvl (keyF ks) vl 51 (keyI ks vl) (lt := keyB ks vl) (fun _ _ => rfl) (wk_key ks vl) (keyed_c E hML vl.length ks vl rfl hv hks hsz hvl)).to2 2001 2002 3 2 |>.swap 2000 37
  have e1 : ren2 2001 2002 3 2 2001 = 3 := ren2_l (by decide) (by decide)
  have e2 : ren2 2001 2002 3 2 2002 = 2 := ren2_r _ _ _ _
  have e3 : ren2 2001 2002 3 2 2000 = 2000 := by decide
  have e4 : swp 2000 37 3 = 3 := by decide
  have e5 : swp 2000 37 2 = 2 := by decide
  simpa only [SHC, clC, swp_l, e4, e5, D.renL, D.ren, renH, Ob.ren, e1, e2, e3, List.map_cons, List.map_nil] using h
def sortE (ks : List (ByteArray × Bool)) (vl : List Vu) : Int := if listE vl ≠ 0 then listE vl else if 8 < ks.length then 4 else if (ks.all fun k => routeOk false k.1) = true then 0 else 3
set_option maxHeartbeats 8000000 in
theorem sortOf_sp (hML : ∀ w, E.G w → ML w) (ks : List (ByteArray × Bool)) (vl : List Vu) (hw : Vu.wtL vl ≤ 100000000) (hsz : ∀ k ∈ ks, k.1.size ≤ 1000000000) (hvl : vl.length ≤ 1000000000) :
    Sp (cx Tryz.prog mixed tyT_ok E) 16 [.rc (.vals vl), .sl 2 24 ks.length (keyF ks)] (.tup [.sl 1 8 (if sortE ks vl = 0 then vl.length else 0) (rwI (sA (keyB ks vl) 0 vl.length)), i64 (sortE ks vl)]) := by
  have h1 := refListFault_sp E vl hw
  obtain ⟨r, hr⟩ : ∃ r, r = sortE ks vl := ⟨_, rfl⟩
  rw [← hr]
  unfold sortE at hr
  generalize hle : listE vl = e at h1 hr
  have hks : ¬ 8 < ks.length → ks.length ≤ 1000 := fun h => by omega
  by_cases he : e = 0
  · rw [if_neg (by omega)] at hr
    by_cases h8 : 8 < ks.length
    · rw [if_pos h8] at hr
      rw [hr, if_neg (by omega)]
      refine Sp.body Tryz.func16 (by kernel_rfl) rfl (by kernel_rfl) (by kernel_rfl) (by kernel_rfl) ?_
      repeat' first
        | (refine codeW_cond rfl ?_; first | (refine condW_dec ?_ ?_ <;> intro _ <;> try (exfalso; omega)) | refine condW_not ?_ | (refine condW_bool ?_ ?_ <;> intro _ <;> try (exfalso; omega)))
        | (refine facW_intro ?_; intro _)
        | refine Or.inl ?_
        | ((conv => whnf); first | (refine condW_dec ?_ ?_ <;> intro _ <;> try (exfalso; omega)) | refine condW_not ?_ | (refine condW_bool ?_ ?_ <;> intro _ <;> try (exfalso; omega)) | (refine nbC_t (fun _ => ?_) ?_) | (refine nbC_f ?_ (fun _ => ?_)))
        | refine And.intro (by first | omega | (simp only [Int.toNat_natCast] at *; omega) | (simp only [Nat.reduceAdd, Int.cast_ofNat_Int, true_and, and_true]; omega)  | kernel_rfl) ?_
        | refine RegW.run ?_
        | refine ⟨_, h1, ?_⟩
        | fail
      all_goals first
        | exact Dle.tup (X := (cx Tryz.prog mixed tyT_ok E)) ⟨Dle.nil (X := (cx Tryz.prog mixed tyT_ok E)), Dle.refl _ _, trivial⟩
        | trace_state
    · rw [if_neg h8] at hr
      have hks := hks h8
      have hvg : ∀ v ∈ vl, itemE v = 0 := listE_ok (hle.trans he)
      refine Sp.body Tryz.func16 (by kernel_rfl) rfl (by kernel_rfl) (by kernel_rfl) (by kernel_rfl) ?_
      repeat' first
        | (refine codeW_cond rfl ?_; first | (refine condW_dec ?_ ?_ <;> intro _ <;> try (exfalso; omega)) | refine condW_not ?_ | (refine condW_bool ?_ ?_ <;> intro _ <;> try (exfalso; omega)))
        | (refine facW_intro ?_; intro _)
        | refine Or.inl ?_
        | ((conv => whnf); first | (refine condW_dec ?_ ?_ <;> intro _ <;> try (exfalso; omega)) | refine condW_not ?_ | (refine condW_bool ?_ ?_ <;> intro _ <;> try (exfalso; omega)) | (refine nbC_t (fun _ => ?_) ?_) | (refine nbC_f ?_ (fun _ => ?_)))
        | refine And.intro (by first | omega | (simp only [Int.toNat_natCast] at *; omega) | (simp only [Nat.reduceAdd, Int.cast_ofNat_Int, true_and, and_true]; omega)  | kernel_rfl) ?_
        | refine RegW.run ?_
        | refine ⟨_, h1, ?_⟩
        | fail
      refine ⟨Nat, fun k => [(22, i64 k)], fun k => [], [2, 3], fun k => [], fun k => k ≤ ks.length ∧ r = (if ((ks.drop k).all fun k => routeOk false k.1) = true then 0 else 3), fun k => ks.length - k, ⟨0, ⟨by omega, hr⟩, ⟨[], ⟨by kernel_rfl, by kernel_rfl, by kernel_rfl, by kernel_rfl, by kernel_rfl, by kernel_rfl, by kernel_rfl⟩, (by repeat' first | exact trivial | exact rfl | kernel_rfl | exact Dle.of_eq rfl | exact MLe.of_eq rfl | exact Dle.i (by omega) | exact Dle.i (by simp only [Int.toNat_natCast] at *; omega) | exact Dle.nil | exact Dle.rc Dle.nil | exact Option.some_ne_none _ | exact Or.inl rfl | exact Or.inr trivial | omega | (simp only [Int.toNat_natCast] at *; omega) | (intro _ _ _ _; exact Dle.of_eq rfl) | refine And.intro ?_ ?_)⟩⟩, fun k hk => ?_⟩
      obtain ⟨q1, q2⟩ := hk
      by_cases hlt : k < ks.length
      · rw [show ks.drop k = ks.getD k (⟨#[]⟩, false) :: ks.drop (k + 1) from drop_cons ks _ k hlt, List.all_cons] at q2
        have h2 := routeParts_sp E hML (ks.getD k (⟨#[]⟩, false)).1 false (hsz _ (getD_mem ks _ k hlt))
        cases hb : routeOk false (ks.getD k (⟨#[]⟩, false)).1
        · rw [hb] at h2 q2
          have q3 : r = 3 := q2
          rw [q3]
          repeat' first
            | (refine codeW_cond rfl ?_; first | (refine condW_dec ?_ ?_ <;> intro _ <;> try (exfalso; omega)) | refine condW_not ?_ | (refine condW_bool ?_ ?_ <;> intro _ <;> try (exfalso; omega)))
            | (refine facW_intro ?_; intro _)
            | refine Or.inl ?_
            | ((conv => whnf); first | (refine condW_dec ?_ ?_ <;> intro _ <;> try (exfalso; omega)) | refine condW_not ?_ | (refine condW_bool ?_ ?_ <;> intro _ <;> try (exfalso; omega)) | (refine nbC_t (fun _ => ?_) ?_) | (refine nbC_f ?_ (fun _ => ?_)))
            | refine And.intro (by first | omega | (simp only [Int.toNat_natCast] at *; omega) | (simp only [Nat.reduceAdd, Int.cast_ofNat_Int, true_and, and_true]; omega)  | kernel_rfl) ?_
            | refine RegW.run ?_
            | refine ⟨_, h2, ?_⟩
            | fail
          all_goals first
            | (exfalso; omega)
            | exact Dle.tup (X := (cx Tryz.prog mixed tyT_ok E)) ⟨Dle.nil (X := (cx Tryz.prog mixed tyT_ok E)), Dle.refl _ _, trivial⟩
            | trace_state
        · rw [hb, Bool.true_and] at q2
          rw [hb] at h2
          repeat' first
            | (refine codeW_cond rfl ?_; first | (refine condW_dec ?_ ?_ <;> intro _ <;> try (exfalso; omega)) | refine condW_not ?_ | (refine condW_bool ?_ ?_ <;> intro _ <;> try (exfalso; omega)))
            | (refine facW_intro ?_; intro _)
            | refine Or.inl ?_
            | ((conv => whnf); first | (refine condW_dec ?_ ?_ <;> intro _ <;> try (exfalso; omega)) | refine condW_not ?_ | (refine condW_bool ?_ ?_ <;> intro _ <;> try (exfalso; omega)) | (refine nbC_t (fun _ => ?_) ?_) | (refine nbC_f ?_ (fun _ => ?_)))
            | refine And.intro (by first | omega | (simp only [Int.toNat_natCast] at *; omega) | (simp only [Nat.reduceAdd, Int.cast_ofNat_Int, true_and, and_true]; omega)  | kernel_rfl) ?_
            | refine RegW.run ?_
            | refine ⟨_, h2, ?_⟩
            | fail
          all_goals first
            | (exfalso; omega)
            | exact ⟨k + 1, ⟨by omega, q2⟩, ⟨[], ⟨by kernel_rfl, by kernel_rfl, by kernel_rfl, by kernel_rfl, by kernel_rfl, by kernel_rfl, by kernel_rfl⟩, (by repeat' first | exact trivial | exact rfl | kernel_rfl | exact Dle.of_eq rfl | exact MLe.of_eq rfl | exact Dle.i (by omega) | exact Dle.i (by simp only [Int.toNat_natCast] at *; omega) | exact Dle.nil | exact Dle.rc Dle.nil | exact Option.some_ne_none _ | exact Or.inl rfl | exact Or.inr trivial | omega | (simp only [Int.toNat_natCast] at *; omega) | (intro _ _ _ _; exact Dle.of_eq rfl) | refine And.intro ?_ ?_)⟩, by first | omega | (dsimp only; omega)⟩
            | trace_state
      · rw [List.drop_of_length_le (by omega)] at q2
        have q3 : r = 0 := q2
        rw [q3, if_pos rfl]
        have c1 := positions_l E vl.length hvl
        have c2 := keyed_l E hML ks vl hvg hks hsz hvl
        repeat' first
          | refine Or.inr ⟨_, _, _, Or.inl (c1), by kernel_rfl, (by repeat' first | exact trivial | exact rfl | kernel_rfl | exact Dle.of_eq rfl | exact MLe.of_eq rfl | exact Dle.i (by omega) | exact Dle.i (by simp only [Int.toNat_natCast] at *; omega) | exact Dle.nil | exact Dle.rc Dle.nil | exact Option.some_ne_none _ | exact Or.inl rfl | exact Or.inr trivial | omega | (simp only [Int.toNat_natCast] at *; omega) | (intro _ _ _ _; exact Dle.of_eq rfl) | refine And.intro ?_ ?_), ?_⟩
          | refine Or.inr ⟨_, _, _, Or.inl (c2), by kernel_rfl, (by repeat' first | exact trivial | exact rfl | kernel_rfl | exact Dle.of_eq rfl | exact MLe.of_eq rfl | exact Dle.i (by omega) | exact Dle.i (by simp only [Int.toNat_natCast] at *; omega) | exact Dle.nil | exact Dle.rc Dle.nil | exact Option.some_ne_none _ | exact Or.inl rfl | exact Or.inr trivial | omega | (simp only [Int.toNat_natCast] at *; omega) | (intro _ _ _ _; exact Dle.of_eq rfl) | refine And.intro ?_ ?_), ?_⟩
          | (refine codeW_cond rfl ?_; first | (refine condW_dec ?_ ?_ <;> intro _ <;> try (exfalso; omega)) | refine condW_not ?_ | (refine condW_bool ?_ ?_ <;> intro _ <;> try (exfalso; omega)))
          | (refine facW_intro ?_; intro _)
          | refine Or.inl ?_
          | ((conv => whnf); first | (refine condW_dec ?_ ?_ <;> intro _ <;> try (exfalso; omega)) | refine condW_not ?_ | (refine condW_bool ?_ ?_ <;> intro _ <;> try (exfalso; omega)) | (refine nbC_t (fun _ => ?_) ?_) | (refine nbC_f ?_ (fun _ => ?_)))
          | refine And.intro (by first | omega | (simp only [Int.toNat_natCast] at *; omega) | (simp only [Nat.reduceAdd, Int.cast_ofNat_Int, true_and, and_true]; omega)  | kernel_rfl) ?_
          | refine RegW.run ?_
          | fail
        all_goals first
          | exact Dle.tup (X := (cx Tryz.prog mixed tyT_ok E)) ⟨Dle.refl _ _, Dle.refl _ _, trivial⟩
          | trace_state
  · rw [if_pos he] at hr
    rw [hr, if_neg he]
    refine Sp.body Tryz.func16 (by kernel_rfl) rfl (by kernel_rfl) (by kernel_rfl) (by kernel_rfl) ?_
    repeat' first
      | (refine codeW_cond rfl ?_; first | (refine condW_dec ?_ ?_ <;> intro _ <;> try (exfalso; omega)) | refine condW_not ?_ | (refine condW_bool ?_ ?_ <;> intro _ <;> try (exfalso; omega)))
      | (refine facW_intro ?_; intro _)
      | refine Or.inl ?_
      | ((conv => whnf); first | (refine condW_dec ?_ ?_ <;> intro _ <;> try (exfalso; omega)) | refine condW_not ?_ | (refine condW_bool ?_ ?_ <;> intro _ <;> try (exfalso; omega)) | (refine nbC_t (fun _ => ?_) ?_) | (refine nbC_f ?_ (fun _ => ?_)))
      | refine And.intro (by first | omega | (simp only [Int.toNat_natCast] at *; omega) | (simp only [Nat.reduceAdd, Int.cast_ofNat_Int, true_and, and_true]; omega)  | kernel_rfl) ?_
      | refine RegW.run ?_
      | refine ⟨_, h1, ?_⟩
      | fail
    all_goals first
      | exact Dle.tup (X := (cx Tryz.prog mixed tyT_ok E)) ⟨Dle.nil (X := (cx Tryz.prog mixed tyT_ok E)), Dle.refl _ _, trivial⟩
      | trace_state
end
end sc
end Go.Proofs.YthoemnhigboahaaGreatDoor
