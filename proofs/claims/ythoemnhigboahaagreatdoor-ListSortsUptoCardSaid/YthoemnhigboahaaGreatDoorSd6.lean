/-
  The comparison of list.Sort. list.Sort, the whole. The law of list.Sort.
-/
import Derived.Test.YthoemnhigboahaaGreatDoorSd1
import Derived.Test.YthoemnhigboahaaGreatDoorSbE
import Derived.Test.YthoemnhigboahaaGreatDoorSd3
import Derived.Test.YthoemnhigboahaaGreatDoorSbF
import Derived.Test.YthoemnhigboahaaGreatDoorSdO
namespace Go.Proofs.YthoemnhigboahaaGreatDoor
open Go.RowKit
set_option linter.unusedVariables false
set_option linter.unusedSimpArgs false
namespace sb
section
variable (E : Env)
def valF (ks : List (ByteArray × Bool)) (vl : List Vu) (i _j : Nat) : DD := .rc (.vals (vl.map fun v => hasR v (ks.getD i (⟨#[]⟩, false)).1))
set_option maxRecDepth 100000
set_option maxHeartbeats 8000000 in
theorem keyed_l (n : Nat) (ks : List (ByteArray × Bool)) (vl : List Vu) (hn : n = vl.length) (hks : ks.length ≤ 1000) (hvl : vl.length ≤ 1000000000) :
    LessA E n ks.length 2 24 ks.length (keyF ks) (valF ks vl) 46 (keyB ks vl) := by
  intro π hπ a b h0 h1 h2 h3
  obtain ⟨a, rfl⟩ : ∃ x : Nat, a = x := ⟨a.toNat, by omega⟩
  obtain ⟨b, rfl⟩ : ∃ x : Nat, b = x := ⟨b.toNat, by omega⟩
  rw [Int.toNat_natCast, Int.toNat_natCast]
  obtain ⟨r, hr⟩ : ∃ r, r = keyI ks vl (π a) (π b) := ⟨_, rfl⟩
  rw [show keyB ks vl (π a) (π b) = decide (r < 0) by rw [hr]; rfl]
  unfold keyI at hr
  have hva : ∀ k, (vl.map fun v => hasR v (ks.getD k (⟨#[]⟩, false)).1).getD (π a) .zero = hasR (vl.getD (π a) .zero) (ks.getD k (⟨#[]⟩, false)).1 := fun k => by
    have := hπ a (by omega)
    simp [List.getD, show π a < vl.length by omega]
  have hvb : ∀ k, (vl.map fun v => hasR v (ks.getD k (⟨#[]⟩, false)).1).getD (π b) .zero = hasR (vl.getD (π b) .zero) (ks.getD k (⟨#[]⟩, false)).1 := fun k => by
    have := hπ b (by omega)
    simp [List.getD, show π b < vl.length by omega]
  refine SpH.body Tryz.func46 (by kernel_rfl) rfl (by kernel_rfl) (by kernel_rfl) (by kernel_rfl) ?_
  repeat' first
    | (refine codeW_cond rfl ?_; first | (refine condW_dec ?_ ?_ <;> intro _ <;> try (exfalso; omega)) | refine condW_not ?_ | (refine condW_bool ?_ ?_ <;> intro _ <;> try (exfalso; omega)))
    | (refine facW_intro ?_; intro _)
    | refine Or.inl ?_
    | ((conv => whnf); first | (refine condW_dec ?_ ?_ <;> intro _ <;> try (exfalso; omega)) | refine condW_not ?_ | (refine condW_bool ?_ ?_ <;> intro _ <;> try (exfalso; omega)) | (refine nbC_t (fun _ => ?_) ?_) | (refine nbC_f ?_ (fun _ => ?_)))
    | refine And.intro (by first | omega | (simp only [Int.toNat_natCast] at *; omega) | (simp only [Nat.reduceAdd, Int.cast_ofNat_Int, true_and, and_true]; omega)  | (simp only [cx, view, Nat.reduceAdd, Int.toNat_natCast]; omega) | kernel_rfl) ?_
    | refine RegW.run ?_
    | fail
  refine ⟨Nat, fun k => [(13, i64 k)], fun k => [], [2000, 2001, 2002, 2003, 2004], fun k => [], fun k => k ≤ ks.length ∧ r = keysC (ks.drop k) (vl.getD (π a) .zero) (vl.getD (π b) .zero), fun k => ks.length - k, ⟨0, ⟨by omega, hr⟩, ⟨[], ⟨by kernel_rfl, by kernel_rfl, by kernel_rfl, by kernel_rfl, by kernel_rfl, by kernel_rfl, by kernel_rfl⟩, (by repeat' first | exact trivial | exact rfl | kernel_rfl | exact Dle.of_eq rfl | exact MLe.of_eq rfl | exact Dle.i (by omega) | exact Dle.i (by simp only [Int.toNat_natCast] at *; omega) | exact Dle.nil | exact Dle.rc Dle.nil | exact Option.some_ne_none _ | exact Or.inl rfl | exact Or.inr trivial | omega | (simp only [Int.toNat_natCast] at *; omega) | (intro _ _ _ _; exact Dle.of_eq rfl) | refine And.intro ?_ ?_)⟩⟩, fun k hk => ?_⟩
  obtain ⟨q1, q2⟩ := hk
  by_cases hlt : k < ks.length
  · rw [keysC_drop hlt] at q2
    have c1 := comes_sp E (ks.getD k (⟨#[]⟩, false)).2 ((vl.map fun v => hasR v (ks.getD (0 + ((k : Int)).toNat) (⟨#[]⟩, false)).1).getD (π (0 + ((a : Int)).toNat)) .zero) ((vl.map fun v => hasR v (ks.getD (0 + ((k : Int)).toNat) (⟨#[]⟩, false)).1).getD (π (0 + ((b : Int)).toNat)) .zero)
    have hc : comesV (ks.getD k (⟨#[]⟩, false)).2 ((vl.map fun v => hasR v (ks.getD (0 + ((k : Int)).toNat) (⟨#[]⟩, false)).1).getD (π (0 + ((a : Int)).toNat)) .zero) ((vl.map fun v => hasR v (ks.getD (0 + ((k : Int)).toNat) (⟨#[]⟩, false)).1).getD (π (0 + ((b : Int)).toNat)) .zero) = comesV (ks.getD k (⟨#[]⟩, false)).2 (hasR (vl.getD (π a) .zero) (ks.getD k (⟨#[]⟩, false)).1) (hasR (vl.getD (π b) .zero) (ks.getD k (⟨#[]⟩, false)).1) := by
      rw [Nat.zero_add, Nat.zero_add, Nat.zero_add, Int.toNat_natCast, Int.toNat_natCast, Int.toNat_natCast, hva, hvb]
    rw [hc] at c1
    clear hc
    generalize comesV (ks.getD k (⟨#[]⟩, false)).2 (hasR (vl.getD (π a) .zero) (ks.getD k (⟨#[]⟩, false)).1) (hasR (vl.getD (π b) .zero) (ks.getD k (⟨#[]⟩, false)).1) = z at c1 q2
    have b1 : π (0 + ((a : Int)).toNat) < vl.length := by have := hπ a (by omega); rw [Nat.zero_add, Int.toNat_natCast]; omega
    have b2 : π (0 + ((b : Int)).toNat) < vl.length := by have := hπ b (by omega); rw [Nat.zero_add, Int.toNat_natCast]; omega
    have b3 : (vl.map fun v => hasR v (ks.getD (0 + ((k : Int)).toNat) (⟨#[]⟩, false)).1).length = vl.length := List.length_map _
    by_cases hz : z = 0
    · rw [if_neg (by omega)] at q2
      repeat' first
        | (refine codeW_cond rfl ?_; first | (refine condW_dec ?_ ?_ <;> intro _ <;> try (exfalso; omega)) | refine condW_not ?_ | (refine condW_bool ?_ ?_ <;> intro _ <;> try (exfalso; omega)))
        | (refine facW_intro ?_; intro _)
        | refine Or.inl ?_
        | ((conv => whnf); first | (refine condW_dec ?_ ?_ <;> intro _ <;> try (exfalso; omega)) | refine condW_not ?_ | (refine condW_bool ?_ ?_ <;> intro _ <;> try (exfalso; omega)) | (refine nbC_t (fun _ => ?_) ?_) | (refine nbC_f ?_ (fun _ => ?_)))
        | refine And.intro (by first | omega | (simp only [Int.toNat_natCast] at *; omega) | (simp only [Nat.reduceAdd, Int.cast_ofNat_Int, true_and, and_true]; omega)  | (simp only [cx, view, Nat.reduceAdd, Int.toNat_natCast]; omega) | kernel_rfl) ?_
        | refine RegW.run ?_
        | refine ⟨_, c1, ?_⟩
        | fail
      all_goals first
        | (exfalso; omega)
        | exact ⟨k + 1, ⟨by omega, q2⟩, ⟨[], ⟨by kernel_rfl, by kernel_rfl, by kernel_rfl, by kernel_rfl, by kernel_rfl, by kernel_rfl, by kernel_rfl⟩, (by repeat' first | exact trivial | exact rfl | kernel_rfl | exact Dle.of_eq rfl | exact MLe.of_eq rfl | exact Dle.i (by omega) | exact Dle.i (by simp only [Int.toNat_natCast] at *; omega) | exact Dle.nil | exact Dle.rc Dle.nil | exact Option.some_ne_none _ | exact Or.inl rfl | exact Or.inr trivial | omega | (simp only [Int.toNat_natCast] at *; omega) | (intro _ _ _ _; exact Dle.of_eq rfl) | refine And.intro ?_ ?_)⟩, by first | omega | (dsimp only; omega)⟩
        | trace_state
    · rw [if_pos hz] at q2
      rw [q2]
      repeat' first
        | (refine codeW_cond rfl ?_; first | (refine condW_dec ?_ ?_ <;> intro _ <;> try (exfalso; omega)) | refine condW_not ?_ | (refine condW_bool ?_ ?_ <;> intro _ <;> try (exfalso; omega)))
        | (refine facW_intro ?_; intro _)
        | refine Or.inl ?_
        | ((conv => whnf); first | (refine condW_dec ?_ ?_ <;> intro _ <;> try (exfalso; omega)) | refine condW_not ?_ | (refine condW_bool ?_ ?_ <;> intro _ <;> try (exfalso; omega)) | (refine nbC_t (fun _ => ?_) ?_) | (refine nbC_f ?_ (fun _ => ?_)))
        | refine And.intro (by first | omega | (simp only [Int.toNat_natCast] at *; omega) | (simp only [Nat.reduceAdd, Int.cast_ofNat_Int, true_and, and_true]; omega)  | (simp only [cx, view, Nat.reduceAdd, Int.toNat_natCast]; omega) | kernel_rfl) ?_
        | refine RegW.run ?_
        | refine ⟨_, c1, ?_⟩
        | fail
      all_goals first
        | (exfalso; omega)
        | exact ⟨[(2000, .row 3 n (rwI π)), (2001, .cells [.sl 2 24 ks.length (keyF ks)]), (2002, .cells [.own 2003 1 0 ks.length]), (2003, .row 22 ks.length (valF ks vl)), (2004, .cells [.own 2000 1 0 n])], [], rfl, ⟨[], ⟨by kernel_rfl, by kernel_rfl, by kernel_rfl, by kernel_rfl, by kernel_rfl, by kernel_rfl, by kernel_rfl⟩, (by repeat' first | exact trivial | exact rfl | kernel_rfl | exact Dle.of_eq rfl | exact MLe.of_eq rfl | exact Dle.i (by omega) | exact Dle.i (by simp only [Int.toNat_natCast] at *; omega) | exact Dle.nil | exact Dle.rc Dle.nil | exact Option.some_ne_none _ | exact Or.inl rfl | exact Or.inr trivial | omega | (simp only [Int.toNat_natCast] at *; omega) | (intro _ _ _ _; exact Dle.of_eq rfl) | refine And.intro ?_ ?_)⟩, rfl⟩
        | trace_state
  · rw [keysC_end (by omega)] at q2
    rw [show decide (r < 0) = false by rw [q2]; rfl]
    repeat' first
      | (refine codeW_cond rfl ?_; first | (refine condW_dec ?_ ?_ <;> intro _ <;> try (exfalso; omega)) | refine condW_not ?_ | (refine condW_bool ?_ ?_ <;> intro _ <;> try (exfalso; omega)))
      | (refine facW_intro ?_; intro _)
      | refine Or.inl ?_
      | ((conv => whnf); first | (refine condW_dec ?_ ?_ <;> intro _ <;> try (exfalso; omega)) | refine condW_not ?_ | (refine condW_bool ?_ ?_ <;> intro _ <;> try (exfalso; omega)) | (refine nbC_t (fun _ => ?_) ?_) | (refine nbC_f ?_ (fun _ => ?_)))
      | refine And.intro (by first | omega | (simp only [Int.toNat_natCast] at *; omega) | (simp only [Nat.reduceAdd, Int.cast_ofNat_Int, true_and, and_true]; omega)  | (simp only [cx, view, Nat.reduceAdd, Int.toNat_natCast]; omega) | kernel_rfl) ?_
      | refine RegW.run ?_
      | fail
    all_goals first
      | (exfalso; omega)
      | exact ⟨[(2000, .row 3 n (rwI π)), (2001, .cells [.sl 2 24 ks.length (keyF ks)]), (2002, .cells [.own 2003 1 0 ks.length]), (2003, .row 22 ks.length (valF ks vl)), (2004, .cells [.own 2000 1 0 n])], [], rfl, ⟨[], ⟨by kernel_rfl, by kernel_rfl, by kernel_rfl, by kernel_rfl, by kernel_rfl, by kernel_rfl, by kernel_rfl⟩, (by repeat' first | exact trivial | exact rfl | kernel_rfl | exact Dle.of_eq rfl | exact MLe.of_eq rfl | exact Dle.i (by omega) | exact Dle.i (by simp only [Int.toNat_natCast] at *; omega) | exact Dle.nil | exact Dle.rc Dle.nil | exact Option.some_ne_none _ | exact Or.inl rfl | exact Or.inr trivial | omega | (simp only [Int.toNat_natCast] at *; omega) | (intro _ _ _ _; exact Dle.of_eq rfl) | refine And.intro ?_ ?_)⟩, rfl⟩
      | trace_state
end
end sb
end Go.Proofs.YthoemnhigboahaaGreatDoor
namespace Go.Proofs.YthoemnhigboahaaGreatDoor
open Go.RowKit
set_option linter.unusedVariables false
set_option linter.unusedSimpArgs false
namespace so
open sb sc
section
variable (E : Env)
set_option maxRecDepth 100000
theorem row_d (f : Nat → Nat → DD) (d : DD) (k : Nat) (h : d = f k 0) (i j : Nat) (hi : i < k + 1) (hj : j < 1) : Dle (cx Tryz.prog mixed tyT_ok E) (if i < k then f i j else ([d] : List DD).getD ((i - k + 0) * 1 + j) .opq) (f i j) :=
  row_one (X := (cx Tryz.prog mixed tyT_ok E)) (f := f) (g := f) (fun _ _ _ _ => Dle.refl _ _) (fun j hj => by
    obtain rfl : j = 0 := by omega
    rw [← h]
    exact Dle.refl _ _) i j hi hj
theorem slice_l (ks : List (ByteArray × Bool)) (vl : List Vu) (hks : ks.length ≤ 1000) (hvl : vl.length ≤ 1000000000) :
    SpH (cx Tryz.prog mixed tyT_ok E) 45 [.ifo 39 46 1 vl.length, .fn 46 [.ptr 3 0, .ptr 7 0, .ptr 12 0]] [(46, .row 3 vl.length (rwI id)), (3, .cells [.sl 2 24 ks.length (keyF ks)]), (7, .cells [.own 24 1 0 ks.length]), (24, .row 22 ks.length (valF ks vl)), (12, .cells [.own 46 1 0 vl.length])] (.tup [])
      [(46, .row 3 vl.length (rwI (sA (keyB ks vl) 0 vl.length))), (3, .cells [.sl 2 24 ks.length (keyF ks)]), (7, .cells [.own 24 1 0 ks.length]), (24, .row 22 ks.length (valF ks vl)), (12, .cells [.own 46 1 0 vl.length])] := by
  have h := ((((sliceStable_a E vl.length ks.length 2 24 ks.length hvl (keyF ks) (valF ks vl) 46 (lt := keyB ks vl) (wk_key ks vl) (keyed_l E vl.length ks vl rfl hks hvl)).swap 2000 46).swap 2001 3 |>.swap 2002 7).swap 2003 24).swap 2004 12
  simp only [SHA, D.renL, D.ren, renH, Ob.ren, List.map_cons, List.map_nil, swp_l, swp_no (show (2001 : Nat) ≠ 2000 by decide) (show (2001 : Nat) ≠ 46 by decide), swp_no (show (2002 : Nat) ≠ 2000 by decide) (show (2002 : Nat) ≠ 46 by decide), swp_no (show (2003 : Nat) ≠ 2000 by decide) (show (2003 : Nat) ≠ 46 by decide), swp_no (show (2004 : Nat) ≠ 2000 by decide) (show (2004 : Nat) ≠ 46 by decide),
    swp_no (show (46 : Nat) ≠ 2001 by decide) (show (46 : Nat) ≠ 3 by decide), swp_no (show (2002 : Nat) ≠ 2001 by decide) (show (2002 : Nat) ≠ 3 by decide), swp_no (show (2003 : Nat) ≠ 2001 by decide) (show (2003 : Nat) ≠ 3 by decide), swp_no (show (2004 : Nat) ≠ 2001 by decide) (show (2004 : Nat) ≠ 3 by decide),
    swp_no (show (46 : Nat) ≠ 2002 by decide) (show (46 : Nat) ≠ 7 by decide), swp_no (show (3 : Nat) ≠ 2002 by decide) (show (3 : Nat) ≠ 7 by decide), swp_no (show (2003 : Nat) ≠ 2002 by decide) (show (2003 : Nat) ≠ 7 by decide), swp_no (show (2004 : Nat) ≠ 2002 by decide) (show (2004 : Nat) ≠ 7 by decide),
    swp_no (show (46 : Nat) ≠ 2003 by decide) (show (46 : Nat) ≠ 24 by decide), swp_no (show (3 : Nat) ≠ 2003 by decide) (show (3 : Nat) ≠ 24 by decide), swp_no (show (7 : Nat) ≠ 2003 by decide) (show (7 : Nat) ≠ 24 by decide), swp_no (show (2004 : Nat) ≠ 2003 by decide) (show (2004 : Nat) ≠ 24 by decide),
    swp_no (show (46 : Nat) ≠ 2004 by decide) (show (46 : Nat) ≠ 12 by decide), swp_no (show (3 : Nat) ≠ 2004 by decide) (show (3 : Nat) ≠ 12 by decide), swp_no (show (7 : Nat) ≠ 2004 by decide) (show (7 : Nat) ≠ 12 by decide), swp_no (show (24 : Nat) ≠ 2004 by decide) (show (24 : Nat) ≠ 12 by decide)] at h
  exact h
set_option maxHeartbeats 8000000 in
theorem sort_sp (ks : List (ByteArray × Bool)) (vl : List Vu) (hw : Vu.wtL vl ≤ 100000000) (hsz : ∀ k ∈ ks, k.1.size ≤ 1000000000) (hvl : vl.length ≤ 1000000000) :
    Sp (cx Tryz.prog mixed tyT_ok E) 15 [.rc (.vals vl), .sl 2 24 ks.length (keyF ks)] (.tup [.sl 1 8 (if sortE ks vl = 0 then vl.length else 0) (rwI (sA (keyB ks vl) 0 vl.length)), i64 (sortE ks vl)]) := by
  have h1 := listFault_sp E vl hw
  obtain ⟨r, hr⟩ : ∃ r, r = sortE ks vl := ⟨_, rfl⟩
  rw [← hr]
  unfold sortE at hr
  generalize hle : listE vl = e at h1 hr
  have hks : ¬ 8 < ks.length → ks.length ≤ 1000 := fun h => by omega
  by_cases he : e = 0
  · rw [if_neg (by omega)] at hr
    by_cases h8 : 8 < ks.length
    · rw [if_pos h8] at hr
      rw [hr, if_neg (by omega)]
      refine Sp.body Tryz.func15 (by kernel_rfl) rfl (by kernel_rfl) (by kernel_rfl) (by kernel_rfl) ?_
      repeat' first
        | (refine codeW_cond rfl ?_; first | (refine condW_dec ?_ ?_ <;> intro _ <;> try (exfalso; omega)) | refine condW_not ?_ | (refine condW_bool ?_ ?_ <;> intro _ <;> try (exfalso; omega)))
        | (refine facW_intro ?_; intro _)
        | refine Or.inl ?_
        | ((conv => whnf); first | (refine condW_dec ?_ ?_ <;> intro _ <;> try (exfalso; omega)) | refine condW_not ?_ | (refine condW_bool ?_ ?_ <;> intro _ <;> try (exfalso; omega)) | (refine nbC_t (fun _ => ?_) ?_) | (refine nbC_f ?_ (fun _ => ?_)))
        | refine And.intro (by first | omega | (simp only [Int.toNat_natCast] at *; omega) | (simp only [Nat.reduceAdd, Int.cast_ofNat_Int, true_and, and_true]; omega)  | kernel_rfl) ?_
        | refine RegW.run ?_
        | refine ⟨_, h1, ?_⟩
        | fail
      all_goals first
        | exact Dle.tup (X := (cx Tryz.prog mixed tyT_ok E)) ⟨Dle.nil (X := (cx Tryz.prog mixed tyT_ok E)), Dle.refl _ _, trivial⟩
        | trace_state
    · rw [if_neg h8] at hr
      have hks := hks h8
      have hvg : ∀ v ∈ vl, itemE v = 0 := listE_ok (hle.trans he)
      refine Sp.body Tryz.func15 (by kernel_rfl) rfl (by kernel_rfl) (by kernel_rfl) (by kernel_rfl) ?_
      repeat' first
        | (refine codeW_cond rfl ?_; first | (refine condW_dec ?_ ?_ <;> intro _ <;> try (exfalso; omega)) | refine condW_not ?_ | (refine condW_bool ?_ ?_ <;> intro _ <;> try (exfalso; omega)))
        | (refine facW_intro ?_; intro _)
        | refine Or.inl ?_
        | ((conv => whnf); first | (refine condW_dec ?_ ?_ <;> intro _ <;> try (exfalso; omega)) | refine condW_not ?_ | (refine condW_bool ?_ ?_ <;> intro _ <;> try (exfalso; omega)) | (refine nbC_t (fun _ => ?_) ?_) | (refine nbC_f ?_ (fun _ => ?_)))
        | refine And.intro (by first | omega | (simp only [Int.toNat_natCast] at *; omega) | (simp only [Nat.reduceAdd, Int.cast_ofNat_Int, true_and, and_true]; omega)  | kernel_rfl) ?_
        | refine RegW.run ?_
        | refine ⟨_, h1, ?_⟩
        | fail
      refine ⟨Nat, fun k => [(24, i64 k)], fun k => [(7, .cells [.own 24 1 0 k])], [3], fun k => [(24, 22, k, valF ks vl)], fun k => k ≤ ks.length ∧ r = (if ((ks.drop k).all fun k => routeOk false k.1) = true then 0 else 3), fun k => ks.length - k, ⟨0, ⟨by omega, hr⟩, ⟨[(24, none)], ⟨by kernel_rfl, by kernel_rfl, by kernel_rfl, by kernel_rfl, by kernel_rfl, by kernel_rfl, by kernel_rfl⟩, (by repeat' first | exact trivial | exact rfl | kernel_rfl | exact Dle.of_eq rfl | exact MLe.of_eq rfl | exact Dle.i (by omega) | exact Dle.i (by simp only [Int.toNat_natCast] at *; omega) | exact Dle.nil | exact Dle.rc Dle.nil | exact Option.some_ne_none _ | exact Or.inl rfl | exact Or.inr trivial | omega | (simp only [Int.toNat_natCast] at *; omega) | (intro _ _ _ _; exact Dle.of_eq rfl) | refine And.intro ?_ ?_)⟩⟩, fun k hk => ?_⟩
      obtain ⟨q1, q2⟩ := hk
      by_cases hlt : k < ks.length
      · rw [show ks.drop k = ks.getD k (⟨#[]⟩, false) :: ks.drop (k + 1) from drop_cons ks _ k hlt, List.all_cons] at q2
        have hz := hsz _ (getD_mem ks (⟨#[]⟩, false) k hlt)
        have h2 := lSteps_sp E (ks.getD k (⟨#[]⟩, false)).1 hz
        have h3 := had_sp E vl (ks.getD k (⟨#[]⟩, false)).1 hvg hz hvl
        cases hb : routeOk false (ks.getD k (⟨#[]⟩, false)).1
        · rw [hb] at h2 q2
          have q3 : r = 3 := q2
          rw [q3]
          repeat' first
            | (refine codeW_cond rfl ?_; first | (refine condW_dec ?_ ?_ <;> intro _ <;> try (exfalso; omega)) | refine condW_not ?_ | (refine condW_bool ?_ ?_ <;> intro _ <;> try (exfalso; omega)))
            | (refine facW_intro ?_; intro _)
            | refine Or.inl ?_
            | ((conv => whnf); first | (refine condW_dec ?_ ?_ <;> intro _ <;> try (exfalso; omega)) | refine condW_not ?_ | (refine condW_bool ?_ ?_ <;> intro _ <;> try (exfalso; omega)) | (refine nbC_t (fun _ => ?_) ?_) | (refine nbC_f ?_ (fun _ => ?_)))
            | refine And.intro (by first | omega | (simp only [Int.toNat_natCast] at *; omega) | (simp only [Nat.reduceAdd, Int.cast_ofNat_Int, true_and, and_true]; omega)  | kernel_rfl) ?_
            | refine RegW.run ?_
            | refine ⟨_, h2, ?_⟩
            | fail
          all_goals first
            | (exfalso; omega)
            | exact Dle.tup (X := (cx Tryz.prog mixed tyT_ok E)) ⟨Dle.nil (X := (cx Tryz.prog mixed tyT_ok E)), Dle.refl _ _, trivial⟩
            | trace_state
        · rw [hb, Bool.true_and] at q2
          rw [hb] at h2
          repeat' first
            | (refine codeW_cond rfl ?_; first | (refine condW_dec ?_ ?_ <;> intro _ <;> try (exfalso; omega)) | refine condW_not ?_ | (refine condW_bool ?_ ?_ <;> intro _ <;> try (exfalso; omega)))
            | (refine facW_intro ?_; intro _)
            | refine Or.inl ?_
            | ((conv => whnf); first | (refine condW_dec ?_ ?_ <;> intro _ <;> try (exfalso; omega)) | refine condW_not ?_ | (refine condW_bool ?_ ?_ <;> intro _ <;> try (exfalso; omega)) | (refine nbC_t (fun _ => ?_) ?_) | (refine nbC_f ?_ (fun _ => ?_)))
            | refine And.intro (by first | omega | (simp only [Int.toNat_natCast] at *; omega) | (simp only [Nat.reduceAdd, Int.cast_ofNat_Int, true_and, and_true]; omega)  | kernel_rfl) ?_
            | refine RegW.run ?_
            | refine ⟨_, h2, ?_⟩
            | refine ⟨_, h3, ?_⟩
            | fail
          all_goals first
            | (exfalso; omega)
            | exact ⟨k + 1, ⟨by omega, q2⟩, ⟨[(24, some 42)], ⟨by kernel_rfl, by kernel_rfl, by kernel_rfl, by kernel_rfl, by kernel_rfl, by kernel_rfl, by kernel_rfl⟩, (by repeat' first | exact trivial | exact rfl | kernel_rfl | exact Dle.of_eq rfl | exact MLe.of_eq rfl | exact Dle.i (by omega) | exact Dle.i (by simp only [Int.toNat_natCast] at *; omega) | exact Dle.nil | exact Dle.rc Dle.nil | exact Option.some_ne_none _ | exact Or.inl rfl | exact Or.inr trivial | omega | (simp only [Int.toNat_natCast] at *; omega) | (intro _ _ _ _; exact Dle.of_eq rfl) | (intro i j hi hj; exact row_d E (valF ks vl) _ k rfl i j hi hj) | refine And.intro ?_ ?_)⟩, by first | omega | (dsimp only; omega)⟩
            | trace_state
      · obtain rfl : k = ks.length := by omega
        rw [List.drop_of_length_le (by omega)] at q2
        have q3 : r = 0 := q2
        rw [q3, if_pos rfl]
        have c2 := slice_l E ks vl hks hvl
        repeat' first
          | (refine codeW_cond rfl ?_; first | (refine condW_dec ?_ ?_ <;> intro _ <;> try (exfalso; omega)) | refine condW_not ?_ | (refine condW_bool ?_ ?_ <;> intro _ <;> try (exfalso; omega)))
          | (refine facW_intro ?_; intro _)
          | refine Or.inl ?_
          | ((conv => whnf); first | (refine condW_dec ?_ ?_ <;> intro _ <;> try (exfalso; omega)) | refine condW_not ?_ | (refine condW_bool ?_ ?_ <;> intro _ <;> try (exfalso; omega)) | (refine nbC_t (fun _ => ?_) ?_) | (refine nbC_f ?_ (fun _ => ?_)))
          | refine And.intro (by first | omega | (simp only [Int.toNat_natCast] at *; omega) | (simp only [Nat.reduceAdd, Int.cast_ofNat_Int, true_and, and_true]; omega)  | kernel_rfl) ?_
          | refine RegW.run ?_
          | fail
        refine ⟨Nat, fun k => [(46, i64 k)], fun k => [(12, .cells [.own 46 1 0 k])], [3, 7, 24], fun k => [(46, 3, k, rwI id)], fun k => k ≤ vl.length, fun k => vl.length - k, ⟨0, by omega, ⟨[(46, none)], ⟨by kernel_rfl, by kernel_rfl, by kernel_rfl, by kernel_rfl, by kernel_rfl, by kernel_rfl, by kernel_rfl⟩, (by repeat' first | exact trivial | exact rfl | kernel_rfl | exact Dle.of_eq rfl | exact MLe.of_eq rfl | exact Dle.i (by omega) | exact Dle.i (by simp only [Int.toNat_natCast] at *; omega) | exact Dle.nil | exact Dle.rc Dle.nil | exact Option.some_ne_none _ | exact Or.inl rfl | exact Or.inr trivial | omega | (simp only [Int.toNat_natCast] at *; omega) | (intro _ _ _ _; exact Dle.of_eq rfl) | refine And.intro ?_ ?_)⟩⟩, fun k hk => ?_⟩
        have hk : k ≤ vl.length := hk
        by_cases hlt : k < vl.length
        · repeat' first
            | (refine codeW_cond rfl ?_; first | (refine condW_dec ?_ ?_ <;> intro _ <;> try (exfalso; omega)) | refine condW_not ?_ | (refine condW_bool ?_ ?_ <;> intro _ <;> try (exfalso; omega)))
            | (refine facW_intro ?_; intro _)
            | refine Or.inl ?_
            | ((conv => whnf); first | (refine condW_dec ?_ ?_ <;> intro _ <;> try (exfalso; omega)) | refine condW_not ?_ | (refine condW_bool ?_ ?_ <;> intro _ <;> try (exfalso; omega)) | (refine nbC_t (fun _ => ?_) ?_) | (refine nbC_f ?_ (fun _ => ?_)))
            | refine And.intro (by first | omega | (simp only [Int.toNat_natCast] at *; omega) | (simp only [Nat.reduceAdd, Int.cast_ofNat_Int, true_and, and_true]; omega)  | kernel_rfl) ?_
            | refine RegW.run ?_
            | fail
          all_goals first
            | (exfalso; omega)
            | exact ⟨k + 1, by omega, ⟨[(46, some 52)], ⟨by kernel_rfl, by kernel_rfl, by kernel_rfl, by kernel_rfl, by kernel_rfl, by kernel_rfl, by kernel_rfl⟩, (by repeat' first | exact trivial | exact rfl | kernel_rfl | exact Dle.of_eq rfl | exact MLe.of_eq rfl | exact Dle.i (by omega) | exact Dle.i (by simp only [Int.toNat_natCast] at *; omega) | exact Dle.nil | exact Dle.rc Dle.nil | exact Option.some_ne_none _ | exact Or.inl rfl | exact Or.inr trivial | omega | (simp only [Int.toNat_natCast] at *; omega) | (intro _ _ _ _; exact Dle.of_eq rfl) | (intro i j hi hj; exact row_d E (rwI id) _ k rfl i j hi hj) | refine And.intro ?_ ?_)⟩, by first | omega | (dsimp only; omega)⟩
            | trace_state
        · obtain rfl : k = vl.length := by omega
          repeat' first
            | refine Or.inr (ifoW_intro ?_)
            | refine Or.inr ⟨_, _, _, Or.inl (c2), by kernel_rfl, (by repeat' first | exact trivial | exact rfl | kernel_rfl | exact Dle.of_eq rfl | exact MLe.of_eq rfl | exact Dle.i (by omega) | exact Dle.i (by simp only [Int.toNat_natCast] at *; omega) | exact Dle.nil | exact Dle.rc Dle.nil | exact Option.some_ne_none _ | exact Or.inl rfl | exact Or.inr trivial | omega | (simp only [Int.toNat_natCast] at *; omega) | (intro _ _ _ _; exact Dle.of_eq rfl) | refine And.intro ?_ ?_), ?_⟩
            | (refine codeW_cond rfl ?_; first | (refine condW_dec ?_ ?_ <;> intro _ <;> try (exfalso; omega)) | refine condW_not ?_ | (refine condW_bool ?_ ?_ <;> intro _ <;> try (exfalso; omega)))
            | (refine facW_intro ?_; intro _)
            | refine Or.inl ?_
            | ((conv => whnf); first | (refine condW_dec ?_ ?_ <;> intro _ <;> try (exfalso; omega)) | refine condW_not ?_ | (refine condW_bool ?_ ?_ <;> intro _ <;> try (exfalso; omega)) | (refine nbC_t (fun _ => ?_) ?_) | (refine nbC_f ?_ (fun _ => ?_)))
            | refine And.intro (by first | omega | (simp only [Int.toNat_natCast] at *; omega) | (simp only [Nat.reduceAdd, Int.cast_ofNat_Int, true_and, and_true]; omega)  | kernel_rfl) ?_
            | refine RegW.run ?_
            | fail
          all_goals first
            | (exfalso; omega)
            | exact Dle.tup (X := (cx Tryz.prog mixed tyT_ok E)) ⟨Dle.refl _ _, Dle.refl _ _, trivial⟩
            | trace_state
  · rw [if_pos he] at hr
    rw [hr, if_neg he]
    refine Sp.body Tryz.func15 (by kernel_rfl) rfl (by kernel_rfl) (by kernel_rfl) (by kernel_rfl) ?_
    repeat' first
      | (refine codeW_cond rfl ?_; first | (refine condW_dec ?_ ?_ <;> intro _ <;> try (exfalso; omega)) | refine condW_not ?_ | (refine condW_bool ?_ ?_ <;> intro _ <;> try (exfalso; omega)))
      | (refine facW_intro ?_; intro _)
      | refine Or.inl ?_
      | ((conv => whnf); first | (refine condW_dec ?_ ?_ <;> intro _ <;> try (exfalso; omega)) | refine condW_not ?_ | (refine condW_bool ?_ ?_ <;> intro _ <;> try (exfalso; omega)) | (refine nbC_t (fun _ => ?_) ?_) | (refine nbC_f ?_ (fun _ => ?_)))
      | refine And.intro (by first | omega | (simp only [Int.toNat_natCast] at *; omega) | (simp only [Nat.reduceAdd, Int.cast_ofNat_Int, true_and, and_true]; omega)  | kernel_rfl) ?_
      | refine RegW.run ?_
      | refine ⟨_, h1, ?_⟩
      | fail
    all_goals first
      | exact Dle.tup (X := (cx Tryz.prog mixed tyT_ok E)) ⟨Dle.nil (X := (cx Tryz.prog mixed tyT_ok E)), Dle.refl _ _, trivial⟩
      | trace_state
end
end so
end Go.Proofs.YthoemnhigboahaaGreatDoor
namespace Go.Proofs.YthoemnhigboahaaGreatDoor
open Go.RowKit
set_option linter.unusedVariables false
set_option linter.unusedSimpArgs false
namespace sb
open sc so
section
variable (E : Env)
set_option maxRecDepth 100000
theorem eqRow_sp (n : Nat) (π : Nat → Nat) : Sp (cx Tryz.prog mixed tyT_ok E) 17 [.sl 1 8 n (rwI π), .sl 1 8 n (rwI π)] (dB true) := by
  refine Sp.body Tryz.func17 (by kernel_rfl) rfl (by kernel_rfl) (by kernel_rfl) (by kernel_rfl) ?_
  repeat' first
    | (refine codeW_cond rfl ?_; first | (refine condW_dec ?_ ?_ <;> intro _ <;> try (exfalso; omega)) | refine condW_not ?_ | (refine condW_bool ?_ ?_ <;> intro _ <;> try (exfalso; omega)))
    | (refine facW_intro ?_; intro _)
    | refine Or.inl ?_
    | ((conv => whnf); first | (refine condW_dec ?_ ?_ <;> intro _ <;> try (exfalso; omega)) | refine condW_not ?_ | (refine condW_bool ?_ ?_ <;> intro _ <;> try (exfalso; omega)) | (refine nbC_t (fun _ => ?_) ?_) | (refine nbC_f ?_ (fun _ => ?_)))
    | refine And.intro (by first | omega | (simp only [Int.toNat_natCast] at *; omega) | (simp only [Nat.reduceAdd, Int.cast_ofNat_Int, true_and, and_true]; omega)  | kernel_rfl) ?_
    | refine RegW.run ?_
    | fail
  refine ⟨Nat, fun k => [(13, i64 k)], fun k => [], [], fun k => [], fun k => k ≤ n, fun k => n - k, ⟨0, by omega, ⟨[], ⟨by kernel_rfl, by kernel_rfl, by kernel_rfl, by kernel_rfl, by kernel_rfl, by kernel_rfl, by kernel_rfl⟩, (by repeat' first | exact trivial | exact rfl | kernel_rfl | exact Dle.of_eq rfl | exact MLe.of_eq rfl | exact Dle.i (by omega) | exact Dle.i (by simp only [Int.toNat_natCast] at *; omega) | exact Dle.nil | exact Dle.rc Dle.nil | exact Option.some_ne_none _ | exact Or.inl rfl | exact Or.inr trivial | omega | (simp only [Int.toNat_natCast] at *; omega) | (intro _ _ _ _; exact Dle.of_eq rfl) | refine And.intro ?_ ?_)⟩⟩, fun k hk => ?_⟩
  have hk : k ≤ n := hk
  repeat' first
    | (refine codeW_cond rfl ?_; first | (refine condW_dec ?_ ?_ <;> intro _ <;> try (exfalso; omega)) | refine condW_not ?_ | (refine condW_bool ?_ ?_ <;> intro _ <;> try (exfalso; omega)))
    | (refine facW_intro ?_; intro _)
    | refine Or.inl ?_
    | ((conv => whnf); first | (refine condW_dec ?_ ?_ <;> intro _ <;> try (exfalso; omega)) | refine condW_not ?_ | (refine condW_bool ?_ ?_ <;> intro _ <;> try (exfalso; omega)) | (refine nbC_t (fun _ => ?_) ?_) | (refine nbC_f ?_ (fun _ => ?_)))
    | refine And.intro (by first | omega | (simp only [Int.toNat_natCast] at *; omega) | (simp only [Nat.reduceAdd, Int.cast_ofNat_Int, true_and, and_true]; omega)  | kernel_rfl) ?_
    | refine RegW.run ?_
    | fail
  all_goals first
    | (exfalso; rename_i h; exact h rfl)
    | exact ⟨k + 1, by omega, ⟨[], ⟨by kernel_rfl, by kernel_rfl, by kernel_rfl, by kernel_rfl, by kernel_rfl, by kernel_rfl, by kernel_rfl⟩, (by repeat' first | exact trivial | exact rfl | kernel_rfl | exact Dle.of_eq rfl | exact MLe.of_eq rfl | exact Dle.i (by omega) | exact Dle.i (by simp only [Int.toNat_natCast] at *; omega) | exact Dle.nil | exact Dle.rc Dle.nil | exact Option.some_ne_none _ | exact Or.inl rfl | exact Or.inr trivial | omega | (simp only [Int.toNat_natCast] at *; omega) | (intro _ _ _ _; exact Dle.of_eq rfl) | refine And.intro ?_ ?_)⟩, by first | omega | (dsimp only; omega)⟩
    | exact Dle.refl _ _
    | trace_state
theorem listSorts_sp (hML : ∀ w, E.G w → ML w) (ks : List (ByteArray × Bool)) (vl : List Vu) (hw : Vu.wtL vl ≤ 100000000) (hsz : (ks.map fun t => t.1.size + 1).sum ≤ 100000000) :
    Sp (cx Tryz.prog mixed tyT_ok E) 4 [.rc (.vals vl), .sl 2 24 ks.length (keyF ks)] (dB true) := by
  have hvl : vl.length ≤ 1000000000 := by have := vlen_le vl; omega
  have hk : ∀ k ∈ ks, k.1.size ≤ 1000000000 := fun k h => by have := key_mem h; omega
  have h1 := sort_sp E ks vl hw hk hvl
  have h2 := sortOf_sp E hML ks vl hw hk hvl
  generalize sortE ks vl = e at h1 h2
  generalize (if e = 0 then vl.length else 0) = m at h1 h2
  have h3 := eqRow_sp E m (sA (keyB ks vl) 0 vl.length)
  generalize sA (keyB ks vl) 0 vl.length = π at h1 h2 h3
  refine Sp.body Tryz.func4 (by kernel_rfl) rfl (by kernel_rfl) (by kernel_rfl) (by kernel_rfl) ?_
  repeat' first
    | (refine codeW_cond rfl ?_; first | (refine condW_dec ?_ ?_ <;> intro _ <;> try (exfalso; omega)) | refine condW_not ?_ | (refine condW_bool ?_ ?_ <;> intro _ <;> try (exfalso; omega)))
    | (refine facW_intro ?_; intro _)
    | refine Or.inl ?_
    | ((conv => whnf); first | (refine condW_dec ?_ ?_ <;> intro _ <;> try (exfalso; omega)) | refine condW_not ?_ | (refine condW_bool ?_ ?_ <;> intro _ <;> try (exfalso; omega)) | (refine nbC_t (fun _ => ?_) ?_) | (refine nbC_f ?_ (fun _ => ?_)))
    | refine And.intro (by first | omega | (simp only [Int.toNat_natCast] at *; omega) | (simp only [Nat.reduceAdd, Int.cast_ofNat_Int, true_and, and_true]; omega)  | kernel_rfl) ?_
    | refine RegW.run ?_
    | refine ⟨_, h1, ?_⟩
    | refine ⟨_, h2, ?_⟩
    | refine ⟨_, h3, ?_⟩
    | fail
  all_goals first
    | (exfalso; rename_i h; exact h rfl)
    | exact Dle.refl _ _
    | trace_state
end
end sb
end Go.Proofs.YthoemnhigboahaaGreatDoor
