/-
  list.ranked: positions in the order of their values, and where new values begin.
-/
import Derived.Test.YthoemnhigboahaaGreatDoorSrF
import Derived.Test.YthoemnhigboahaaGreatDoorRk0
import Derived.Test.YthoemnhigboahaaGreatDoorU9
namespace Go.Proofs.YthoemnhigboahaaGreatDoor
open Go.RowKit
set_option linter.unusedVariables false
set_option linter.unusedSimpArgs false
namespace rk
open sb sq
section
variable (E : Env)
set_option maxRecDepth 100000
theorem row_d (f : Nat → Nat → DD) (d : DD) (k : Nat) (h : d = f k 0) (i j : Nat) (hi : i < k + 1) (hj : j < 1) : Dle (cx Tryz.prog mixed tyT_ok E) (if i < k then f i j else ([d] : List DD).getD ((i - k + 0) * 1 + j) .opq) (f i j) :=
  row_one (X := (cx Tryz.prog mixed tyT_ok E)) (f := f) (g := f) (fun _ _ _ _ => Dle.refl _ _) (fun j hj => by
    obtain rfl : j = 0 := by omega
    rw [← h]
    exact Dle.refl _ _) i j hi hj
theorem equal_sp (a b : Vu) : Sp (cx Tryz.prog mixed tyT_ok E) 100 [encV a, encV b] (dB (decide (cmpV a b = 0))) := by
  have h1 := compare_sp E _ a b (Nat.lt_succ_self _)
  generalize cmpV a b = r at h1
  refine Sp.body Tryz.func100 (by kernel_rfl) rfl (by kernel_rfl) (by kernel_rfl) (by kernel_rfl) ?_
  repeat' first
    | (refine codeW_cond rfl ?_; first | (refine condW_dec ?_ ?_ <;> intro _ <;> try (exfalso; omega)) | refine condW_not ?_ | (refine condW_bool ?_ ?_ <;> intro _ <;> try (exfalso; omega)))
    | (refine facW_intro ?_; intro _)
    | refine Or.inl ?_
    | ((conv => whnf); first | (refine condW_dec ?_ ?_ <;> intro _) | refine condW_not ?_ | (refine condW_bool ?_ ?_ <;> intro _) | (refine nbC_t (fun _ => ?_) ?_) | (refine nbC_f ?_ (fun _ => ?_)))
    | refine And.intro (by first | omega | (simp only [Int.toNat_natCast] at *; omega) | (simp only [Nat.reduceAdd, Int.cast_ofNat_Int, true_and, and_true]; omega)  | kernel_rfl) ?_
    | refine RegW.run ?_
    | refine ⟨_, h1, ?_⟩
    | fail
  all_goals exact Dle.refl _ _
theorem rankLess (vl : List Vu) (hvl : vl.length ≤ 1000000000) : sq.LessR E vl.length vl 99 (ltV vl) := by
  intro π hπ a b h0 h1 h2 h3
  obtain ⟨a, rfl⟩ : ∃ x : Nat, a = x := ⟨a.toNat, by omega⟩
  obtain ⟨b, rfl⟩ : ∃ x : Nat, b = x := ⟨b.toNat, by omega⟩
  rw [Int.toNat_natCast, Int.toNat_natCast]
  have b1 : π (0 + ((a : Int)).toNat) < vl.length := by have := hπ a (by omega); rw [Nat.zero_add, Int.toNat_natCast]; omega
  have b2 : π (0 + ((b : Int)).toNat) < vl.length := by have := hπ b (by omega); rw [Nat.zero_add, Int.toNat_natCast]; omega
  have c1 := compare_sp E _ (vl.getD (π (0 + ((a : Int)).toNat)) .zero) (vl.getD (π (0 + ((b : Int)).toNat)) .zero) (Nat.lt_succ_self _)
  have hz : cmpV (vl.getD (π (0 + ((a : Int)).toNat)) .zero) (vl.getD (π (0 + ((b : Int)).toNat)) .zero) = cmpV (vl.getD (π a) .zero) (vl.getD (π b) .zero) := by
    rw [Nat.zero_add, Nat.zero_add, Int.toNat_natCast, Int.toNat_natCast]
  rw [hz] at c1
  clear hz
  have hl : ltV vl (π a) (π b) = decide (cmpV (vl.getD (π a) .zero) (vl.getD (π b) .zero) < 0) := rfl
  rw [hl]
  clear hl
  generalize cmpV (vl.getD (π a) .zero) (vl.getD (π b) .zero) = z at c1
  refine SpH.body Tryz.func99 (by kernel_rfl) rfl (by kernel_rfl) (by kernel_rfl) (by kernel_rfl) ?_
  repeat' first
    | (refine codeW_cond rfl ?_; first | (refine condW_dec ?_ ?_ <;> intro _ <;> try (exfalso; omega)) | refine condW_not ?_ | (refine condW_bool ?_ ?_ <;> intro _ <;> try (exfalso; omega)))
    | (refine facW_intro ?_; intro _)
    | refine Or.inl ?_
    | ((conv => whnf); first | (refine condW_dec ?_ ?_ <;> intro _ <;> try (exfalso; omega)) | refine condW_not ?_ | (refine condW_bool ?_ ?_ <;> intro _ <;> try (exfalso; omega)) | (refine nbC_t (fun _ => ?_) ?_) | (refine nbC_f ?_ (fun _ => ?_)))
    | refine And.intro (by first | omega | (simp only [Int.toNat_natCast] at *; omega) | (simp only [Nat.reduceAdd, Int.cast_ofNat_Int, true_and, and_true]; omega)  | kernel_rfl) ?_
    | refine RegW.run ?_
    | refine ⟨_, c1, ?_⟩
    | fail
  all_goals first
    | (exfalso; omega)
    | exact ⟨[(2000, .row 3 vl.length (rwI π)), (2001, .cells [.rc (.vals vl)]), (2002, .cells [.own 2000 1 0 vl.length])], [], rfl, ⟨[], ⟨by kernel_rfl, by kernel_rfl, by kernel_rfl, by kernel_rfl, by kernel_rfl, by kernel_rfl, by kernel_rfl⟩, (by repeat' first | exact trivial | exact rfl | kernel_rfl | exact Dle.of_eq rfl | exact MLe.of_eq rfl | exact Dle.i (by omega) | exact Dle.i (by simp only [Int.toNat_natCast] at *; omega) | exact Dle.nil | exact Dle.rc Dle.nil | exact Option.some_ne_none _ | exact Or.inl rfl | exact Or.inr trivial | omega | (simp only [Int.toNat_natCast] at *; omega) | (intro _ _ _ _; exact Dle.of_eq rfl) | refine And.intro ?_ ?_)⟩, rfl⟩
    | trace_state
theorem slice_r (vl : List Vu) (hvl : vl.length ≤ 1000000000) :
    SpH (cx Tryz.prog mixed tyT_ok E) 45 [.ifo 39 11 1 vl.length, .fn 99 [.ptr 1 0, .ptr 4 0]] [(11, .row 3 vl.length (rwI id)), (1, .cells [.rc (.vals vl)]), (4, .cells [.own 11 1 0 vl.length])] (.tup [])
      [(11, .row 3 vl.length (rwI (ord vl))), (1, .cells [.rc (.vals vl)]), (4, .cells [.own 11 1 0 vl.length])] := by
  have h := ((sq.sliceStable_a E vl.length hvl vl 99 (lt := ltV vl) (wk_ltV vl) (rankLess E vl hvl)).swap 2000 11).swap 2001 1 |>.swap 2002 4
  simp only [sq.SHR, D.renL, D.ren, renH, Ob.ren, List.map_cons, List.map_nil, swp_l, swp_no (show (2001 : Nat) ≠ 2000 by decide) (show (2001 : Nat) ≠ 11 by decide), swp_no (show (2002 : Nat) ≠ 2000 by decide) (show (2002 : Nat) ≠ 11 by decide),
    swp_no (show (11 : Nat) ≠ 2001 by decide) (show (11 : Nat) ≠ 1 by decide), swp_no (show (2002 : Nat) ≠ 2001 by decide) (show (2002 : Nat) ≠ 1 by decide),
    swp_no (show (11 : Nat) ≠ 2002 by decide) (show (11 : Nat) ≠ 4 by decide), swp_no (show (1 : Nat) ≠ 2002 by decide) (show (1 : Nat) ≠ 4 by decide)] at h
  exact h
theorem rw_bool (f : Nat → Bool) {n k i j : Nat} (x : DD) (hx : x = dB (f k)) (hi : i < n) (hj : j < 1) : Dle (cx Tryz.prog mixed tyT_ok E) (rowSet (fun i _ => dB (decide (i < k) && f i)) (0 + ((k : Int)).toNat) 0 [x] i j) (dB (decide (i < k + 1) && f i)) := by
  obtain rfl : j = 0 := by omega
  unfold rowSet
  rw [Nat.zero_add, Int.toNat_natCast]
  by_cases h1 : i = k
  · subst h1
    rw [if_pos ⟨rfl, by omega, by simp⟩, hx, decide_eq_true (by omega : i < i + 1), Bool.true_and]
    exact Dle.refl _ _
  · rw [if_neg (fun h => h1 h.1)]
    show Dle _ (dB (decide (i < k) && f i)) _
    have e : decide (i < k) = decide (i < k + 1) := by
      rw [Bool.eq_iff_iff, decide_eq_true_eq, decide_eq_true_eq]
      omega
    rw [e]
    exact Dle.refl _ _
theorem bool0 (f : Nat → Bool) (i : Nat) : Dle (cx Tryz.prog mixed tyT_ok E) (.v (.bool false)) (dB (decide (i < 0) && f i)) := by
  rw [decide_eq_false (Nat.not_lt_zero i), Bool.false_and]
  exact Dle.refl _ _
theorem boolN (f : Nat → Bool) {n i : Nat} (h : i < n) : Dle (cx Tryz.prog mixed tyT_ok E) (dB (decide (i < n) && f i)) (dB (f i)) := by
  rw [decide_eq_true h, Bool.true_and]
  exact Dle.refl _ _
set_option maxHeartbeats 8000000 in
theorem ranked_sp (vl : List Vu) (hvl : vl.length ≤ 1000000000) : Sp (cx Tryz.prog mixed tyT_ok E) 53 [.rc (.vals vl)] (.tup [.sl 1 8 vl.length (rwI (ord vl)), .sl 1 1 vl.length (fun i _ => dB (begR vl (ord vl) i))]) := by
  have c1 := slice_r E vl hvl
  refine Sp.body Tryz.func53 (by kernel_rfl) rfl (by kernel_rfl) (by kernel_rfl) (by kernel_rfl) ?_
  repeat' first
    | (refine codeW_cond rfl ?_; first | (refine condW_dec ?_ ?_ <;> intro _ <;> try (exfalso; omega)) | refine condW_not ?_ | (refine condW_bool ?_ ?_ <;> intro _ <;> try (exfalso; omega)))
    | (refine facW_intro ?_; intro _)
    | refine Or.inl ?_
    | ((conv => whnf); first | (refine condW_dec ?_ ?_ <;> intro _ <;> try (exfalso; omega)) | refine condW_not ?_ | (refine condW_bool ?_ ?_ <;> intro _ <;> try (exfalso; omega)) | (refine nbC_t (fun _ => ?_) ?_) | (refine nbC_f ?_ (fun _ => ?_)))
    | refine And.intro (by first | omega | (simp only [Int.toNat_natCast] at *; omega) | (simp only [Nat.reduceAdd, Int.cast_ofNat_Int, true_and, and_true]; omega)  | kernel_rfl) ?_
    | refine RegW.run ?_
    | fail
  refine ⟨Nat, fun k => [(11, i64 k)], fun k => [(4, .cells [.own 11 1 0 k])], [1], fun k => [(11, 3, k, rwI id)], fun k => k ≤ vl.length, fun k => vl.length - k, ⟨0, by omega, ⟨[(11, none)], ⟨by kernel_rfl, by kernel_rfl, by kernel_rfl, by kernel_rfl, by kernel_rfl, by kernel_rfl, by kernel_rfl⟩, (by repeat' first | exact trivial | exact rfl | kernel_rfl | exact Dle.of_eq rfl | exact MLe.of_eq rfl | exact Dle.i (by omega) | exact Dle.i (by simp only [Int.toNat_natCast] at *; omega) | exact Dle.nil | exact Dle.rc Dle.nil | exact Option.some_ne_none _ | exact Or.inl rfl | exact Or.inr trivial | omega | (simp only [Int.toNat_natCast] at *; omega) | (intro _ _ _ _; exact Dle.of_eq rfl) | refine And.intro ?_ ?_)⟩⟩, fun k hk => ?_⟩
  have hk : k ≤ vl.length := hk
  by_cases hlt : k < vl.length
  · repeat' first
      | (refine codeW_cond rfl ?_; first | (refine condW_dec ?_ ?_ <;> intro _ <;> try (exfalso; omega)) | refine condW_not ?_ | (refine condW_bool ?_ ?_ <;> intro _ <;> try (exfalso; omega)))
      | (refine facW_intro ?_; intro _)
      | refine Or.inl ?_
      | ((conv => whnf); first | (refine condW_dec ?_ ?_ <;> intro _ <;> try (exfalso; omega)) | refine condW_not ?_ | (refine condW_bool ?_ ?_ <;> intro _ <;> try (exfalso; omega)) | (refine nbC_t (fun _ => ?_) ?_) | (refine nbC_f ?_ (fun _ => ?_)))
      | refine And.intro (by first | omega | (simp only [Int.toNat_natCast] at *; omega) | (simp only [Nat.reduceAdd, Int.cast_ofNat_Int, true_and, and_true]; omega)  | kernel_rfl) ?_
      | refine RegW.run ?_
      | fail
    all_goals first
      | (exfalso; omega)
      | exact ⟨k + 1, by omega, ⟨[(11, some 17)], ⟨by kernel_rfl, by kernel_rfl, by kernel_rfl, by kernel_rfl, by kernel_rfl, by kernel_rfl, by kernel_rfl⟩, (by repeat' first | exact trivial | exact rfl | kernel_rfl | exact Dle.of_eq rfl | exact MLe.of_eq rfl | exact Dle.i (by omega) | exact Dle.i (by simp only [Int.toNat_natCast] at *; omega) | exact Dle.nil | exact Dle.rc Dle.nil | exact Option.some_ne_none _ | exact Or.inl rfl | exact Or.inr trivial | omega | (simp only [Int.toNat_natCast] at *; omega) | (intro _ _ _ _; exact Dle.of_eq rfl) | (intro i j hi hj; exact row_d E (rwI id) _ k rfl i j hi hj) | refine And.intro ?_ ?_)⟩, by first | omega | (dsimp only; omega)⟩
      | trace_state
  · obtain rfl : k = vl.length := by omega
    repeat' first
      | refine Or.inr (ifoW_intro ?_)
      | refine Or.inr ⟨_, _, _, Or.inl (c1), by kernel_rfl, (by repeat' first | exact trivial | exact rfl | kernel_rfl | exact Dle.of_eq rfl | exact MLe.of_eq rfl | exact Dle.i (by omega) | exact Dle.i (by simp only [Int.toNat_natCast] at *; omega) | exact Dle.nil | exact Dle.rc Dle.nil | exact Option.some_ne_none _ | exact Or.inl rfl | exact Or.inr trivial | omega | (simp only [Int.toNat_natCast] at *; omega) | (intro _ _ _ _; exact Dle.of_eq rfl) | refine And.intro ?_ ?_), ?_⟩
      | (refine codeW_cond rfl ?_; first | (refine condW_dec ?_ ?_ <;> intro _ <;> try (exfalso; omega)) | refine condW_not ?_ | (refine condW_bool ?_ ?_ <;> intro _ <;> try (exfalso; omega)))
      | (refine facW_intro ?_; intro _)
      | refine Or.inl ?_
      | ((conv => whnf); first | (refine condW_dec ?_ ?_ <;> intro _ <;> try (exfalso; omega)) | refine condW_not ?_ | (refine condW_bool ?_ ?_ <;> intro _ <;> try (exfalso; omega)) | (refine nbC_t (fun _ => ?_) ?_) | (refine nbC_f ?_ (fun _ => ?_)))
      | refine And.intro (by first | omega | (simp only [Int.toNat_natCast] at *; omega) | (simp only [Nat.reduceAdd, Int.cast_ofNat_Int, true_and, and_true]; omega)  | kernel_rfl) ?_
      | refine RegW.run ?_
      | fail
    refine ⟨Nat, fun i => [(28, i64 i)], fun i => [(25, .row 4 vl.length (fun k _ => dB (decide (k < i) && begR vl (ord vl) k)))], [1, 4, 11], fun i => [], fun i => i ≤ vl.length, fun i => vl.length - i, ⟨0, Nat.zero_le _, ⟨[], ⟨by kernel_rfl, by kernel_rfl, by kernel_rfl, by kernel_rfl, by kernel_rfl, by kernel_rfl, by kernel_rfl⟩, (by repeat' first | ((intro i j hi hj; obtain rfl : j = 0 := (by have h : j < 1 := hj; omega); exact bool0 E (begR vl (ord vl)) i)) | exact trivial | exact rfl | kernel_rfl | exact Dle.of_eq rfl | exact MLe.of_eq rfl | exact Dle.i (by omega) | exact Dle.i (by simp only [Int.toNat_natCast] at *; omega) | exact Dle.nil | exact Dle.rc Dle.nil | exact Option.some_ne_none _ | exact Or.inl rfl | exact Or.inr trivial | omega | (simp only [Int.toNat_natCast] at *; omega) | (intro _ _ _ _; exact Dle.of_eq rfl) | refine And.intro ?_ ?_)⟩⟩, fun i hi => ?_⟩
    have hi2 : i ≤ vl.length := hi
    by_cases hlt2 : i < vl.length
    · have b1 : ord vl (0 + ((i : Int) - 1).toNat) < vl.length := by rw [Nat.zero_add]; exact ord_lt (by omega)
      have b2 : ord vl (0 + ((i : Int)).toNat) < vl.length := by rw [Nat.zero_add, Int.toNat_natCast]; exact ord_lt hlt2
      have c2 := equal_sp E (vl.getD (ord vl (0 + ((i : Int) - 1).toNat)) .zero) (vl.getD (ord vl (0 + ((i : Int)).toNat)) .zero)
      have hz : cmpV (vl.getD (ord vl (0 + ((i : Int) - 1).toNat)) .zero) (vl.getD (ord vl (0 + ((i : Int)).toNat)) .zero) = cmpV (vl.getD (ord vl (i - 1)) .zero) (vl.getD (ord vl i) .zero) := by
        rw [Nat.zero_add, Nat.zero_add, Int.toNat_natCast, show ((i : Int) - 1).toNat = i - 1 by omega]
      rw [hz] at c2
      have hb : begR vl (ord vl) i = (decide (i = 0) || decide (¬ cmpV (vl.getD (ord vl (i - 1)) .zero) (vl.getD (ord vl i) .zero) = 0)) := rfl
      clear hz
      generalize cmpV (vl.getD (ord vl (i - 1)) .zero) (vl.getD (ord vl i) .zero) = z at c2 hb
      by_cases h0 : i = 0
      · rw [decide_eq_true h0, Bool.true_or] at hb
        repeat' first
          | (refine codeW_cond rfl ?_; first | (refine condW_dec ?_ ?_ <;> intro _ <;> try (exfalso; omega)) | refine condW_not ?_ | (refine condW_bool ?_ ?_ <;> intro _ <;> try (exfalso; omega)))
          | (refine facW_intro ?_; intro _)
          | refine Or.inl ?_
          | ((conv => whnf); first | (refine condW_dec ?_ ?_ <;> intro _ <;> try (exfalso; omega)) | refine condW_not ?_ | (refine condW_bool ?_ ?_ <;> intro _ <;> try (exfalso; omega)) | (refine nbC_t (fun _ => ?_) ?_) | (refine nbC_f ?_ (fun _ => ?_)))
          | refine And.intro (by first | omega | (simp only [Int.toNat_natCast] at *; omega) | (simp only [Nat.reduceAdd, Int.cast_ofNat_Int, true_and, and_true]; omega)  | kernel_rfl) ?_
          | refine RegW.run ?_
          | refine ⟨_, c2, ?_⟩
          | fail
        all_goals first
          | (exfalso; omega)
          | exact ⟨i + 1, hlt2, ⟨[], ⟨by kernel_rfl, by kernel_rfl, by kernel_rfl, by kernel_rfl, by kernel_rfl, by kernel_rfl, by kernel_rfl⟩, (by repeat' first | (first | exact Dle.i (by omega) | (intro i' j' hi' hj'; exact rw_bool E (begR vl (ord vl)) _ (by rw [hb]) hi' hj')) | exact trivial | exact rfl | kernel_rfl | exact Dle.of_eq rfl | exact MLe.of_eq rfl | exact Dle.i (by omega) | exact Dle.i (by simp only [Int.toNat_natCast] at *; omega) | exact Dle.nil | exact Dle.rc Dle.nil | exact Option.some_ne_none _ | exact Or.inl rfl | exact Or.inr trivial | omega | (simp only [Int.toNat_natCast] at *; omega) | (intro _ _ _ _; exact Dle.of_eq rfl) | refine And.intro ?_ ?_)⟩, by first | omega | (dsimp only; omega)⟩
          | trace_state
      · rw [decide_eq_false h0, Bool.false_or] at hb
        by_cases hz : z = 0
        · rw [decide_eq_false (by omega)] at hb
          rw [decide_eq_true hz] at c2
          repeat' first
            | (refine codeW_cond rfl ?_; first | (refine condW_dec ?_ ?_ <;> intro _ <;> try (exfalso; omega)) | refine condW_not ?_ | (refine condW_bool ?_ ?_ <;> intro _ <;> try (exfalso; omega)))
            | (refine facW_intro ?_; intro _)
            | refine Or.inl ?_
            | ((conv => whnf); first | (refine condW_dec ?_ ?_ <;> intro _ <;> try (exfalso; omega)) | refine condW_not ?_ | (refine condW_bool ?_ ?_ <;> intro _ <;> try (exfalso; omega)) | (refine nbC_t (fun _ => ?_) ?_) | (refine nbC_f ?_ (fun _ => ?_)))
            | refine And.intro (by first | omega | (simp only [Int.toNat_natCast] at *; omega) | (simp only [Nat.reduceAdd, Int.cast_ofNat_Int, true_and, and_true]; omega)  | kernel_rfl) ?_
            | refine RegW.run ?_
            | refine ⟨_, c2, ?_⟩
            | fail
          all_goals first
            | (exfalso; omega)
            | exact ⟨i + 1, hlt2, ⟨[], ⟨by kernel_rfl, by kernel_rfl, by kernel_rfl, by kernel_rfl, by kernel_rfl, by kernel_rfl, by kernel_rfl⟩, (by repeat' first | (first | exact Dle.i (by omega) | (intro i' j' hi' hj'; exact rw_bool E (begR vl (ord vl)) _ (by rw [hb]; rfl) hi' hj')) | exact trivial | exact rfl | kernel_rfl | exact Dle.of_eq rfl | exact MLe.of_eq rfl | exact Dle.i (by omega) | exact Dle.i (by simp only [Int.toNat_natCast] at *; omega) | exact Dle.nil | exact Dle.rc Dle.nil | exact Option.some_ne_none _ | exact Or.inl rfl | exact Or.inr trivial | omega | (simp only [Int.toNat_natCast] at *; omega) | (intro _ _ _ _; exact Dle.of_eq rfl) | refine And.intro ?_ ?_)⟩, by first | omega | (dsimp only; omega)⟩
            | trace_state
        · rw [decide_eq_true hz] at hb
          rw [decide_eq_false hz] at c2
          repeat' first
            | (refine codeW_cond rfl ?_; first | (refine condW_dec ?_ ?_ <;> intro _ <;> try (exfalso; omega)) | refine condW_not ?_ | (refine condW_bool ?_ ?_ <;> intro _ <;> try (exfalso; omega)))
            | (refine facW_intro ?_; intro _)
            | refine Or.inl ?_
            | ((conv => whnf); first | (refine condW_dec ?_ ?_ <;> intro _ <;> try (exfalso; omega)) | refine condW_not ?_ | (refine condW_bool ?_ ?_ <;> intro _ <;> try (exfalso; omega)) | (refine nbC_t (fun _ => ?_) ?_) | (refine nbC_f ?_ (fun _ => ?_)))
            | refine And.intro (by first | omega | (simp only [Int.toNat_natCast] at *; omega) | (simp only [Nat.reduceAdd, Int.cast_ofNat_Int, true_and, and_true]; omega)  | kernel_rfl) ?_
            | refine RegW.run ?_
            | refine ⟨_, c2, ?_⟩
            | fail
          all_goals first
            | (exfalso; omega)
            | exact ⟨i + 1, hlt2, ⟨[], ⟨by kernel_rfl, by kernel_rfl, by kernel_rfl, by kernel_rfl, by kernel_rfl, by kernel_rfl, by kernel_rfl⟩, (by repeat' first | (first | exact Dle.i (by omega) | (intro i' j' hi' hj'; exact rw_bool E (begR vl (ord vl)) _ (by rw [hb]; rfl) hi' hj')) | exact trivial | exact rfl | kernel_rfl | exact Dle.of_eq rfl | exact MLe.of_eq rfl | exact Dle.i (by omega) | exact Dle.i (by simp only [Int.toNat_natCast] at *; omega) | exact Dle.nil | exact Dle.rc Dle.nil | exact Option.some_ne_none _ | exact Or.inl rfl | exact Or.inr trivial | omega | (simp only [Int.toNat_natCast] at *; omega) | (intro _ _ _ _; exact Dle.of_eq rfl) | refine And.intro ?_ ?_)⟩, by first | omega | (dsimp only; omega)⟩
            | trace_state
    · obtain rfl : i = vl.length := by omega
      repeat' first
        | (refine codeW_cond rfl ?_; first | (refine condW_dec ?_ ?_ <;> intro _ <;> try (exfalso; omega)) | refine condW_not ?_ | (refine condW_bool ?_ ?_ <;> intro _ <;> try (exfalso; omega)))
        | (refine facW_intro ?_; intro _)
        | refine Or.inl ?_
        | ((conv => whnf); first | (refine condW_dec ?_ ?_ <;> intro _ <;> try (exfalso; omega)) | refine condW_not ?_ | (refine condW_bool ?_ ?_ <;> intro _ <;> try (exfalso; omega)) | (refine nbC_t (fun _ => ?_) ?_) | (refine nbC_f ?_ (fun _ => ?_)))
        | refine And.intro (by first | omega | (simp only [Int.toNat_natCast] at *; omega) | (simp only [Nat.reduceAdd, Int.cast_ofNat_Int, true_and, and_true]; omega)  | kernel_rfl) ?_
        | refine RegW.run ?_
        | fail
      all_goals first
        | (exfalso; omega)
        | exact Dle.tup (X := (cx Tryz.prog mixed tyT_ok E)) ⟨Dle.refl _ _, Dle.sl (X := (cx Tryz.prog mixed tyT_ok E)) rfl (fun i j hi hj => boolN E (begR vl (ord vl)) hi), trivial⟩
        | trace_state
end
end rk
end Go.Proofs.YthoemnhigboahaaGreatDoor
