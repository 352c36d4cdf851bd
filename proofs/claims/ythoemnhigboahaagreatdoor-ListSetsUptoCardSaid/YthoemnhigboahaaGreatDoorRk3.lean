/-
  list.firsts: which values are the first of their kind; list.contains: which are in a list; sort.Search with its objects lent. list.contains, clone, Union, chosen, Meet, Minus.
-/
import Derived.Test.YthoemnhigboahaaGreatDoorRk1
import Derived.Test.YthoemnhigboahaaGreatDoorU5
namespace Go.Proofs.YthoemnhigboahaaGreatDoor
open Go.RowKit
set_option linter.unusedVariables false
set_option linter.unusedSimpArgs false
namespace rk
open sb sq
noncomputable def seen (l : List Vu) (i j : Nat) : Bool := (List.range i).any fun m => decide (ord l m = j)
theorem seen_iff (l : List Vu) (i j : Nat) : seen l i j = true ↔ ∃ m, m < i ∧ ord l m = j := by
  unfold seen
  rw [List.any_eq_true]
  exact ⟨fun ⟨m, h, h2⟩ => ⟨m, List.mem_range.1 h, of_decide_eq_true h2⟩, fun ⟨m, h, h2⟩ => ⟨m, List.mem_range.2 h, decide_eq_true h2⟩⟩
theorem seen_all {l : List Vu} {j : Nat} (h : j < l.length) : seen l l.length j = true := (seen_iff l _ j).2 (ord_ex h)
theorem seen_new (l : List Vu) (i : Nat) : seen l (i + 1) (ord l i) = true := (seen_iff l _ _).2 ⟨i, by omega, rfl⟩
theorem seen_old {l : List Vu} {i j : Nat} (h : j ≠ ord l i) : seen l (i + 1) j = seen l i j := by
  rw [Bool.eq_iff_iff, seen_iff, seen_iff]
  constructor
  · rintro ⟨m, h1, h2⟩
    by_cases e : m = i
    · subst e; exact absurd h2.symm h
    · exact ⟨m, by omega, h2⟩
  · rintro ⟨m, h1, h2⟩
    exact ⟨m, by omega, h2⟩
theorem seen_0 (l : List Vu) (j : Nat) : seen l 0 j = false := rfl
section
variable (E : Env)
set_option maxRecDepth 100000
theorem rw_seen {l : List Vu} {k A i j : Nat} (hk : k < l.length) (hA : A = ord l k) (x : DD) (hx : x = dB (begR l (ord l) k)) (hj : j < 1) : Dle (cx Tryz.prog mixed tyT_ok E) (rowSet (fun j _ => dB (seen l k j && fstV l j)) A 0 [x] i j) (dB (seen l (k + 1) i && fstV l i)) := by
  obtain rfl : j = 0 := by omega
  unfold rowSet
  by_cases h1 : i = A
  · rw [if_pos ⟨h1, by omega, by simp⟩, hx, h1, hA, seen_new, Bool.true_and, ← beg_fst hk]
    exact Dle.refl _ _
  · rw [if_neg (fun h => h1 h.1)]
    show Dle _ (dB (seen l k i && fstV l i)) _
    rw [seen_old (by rw [← hA]; exact h1)]
    exact Dle.refl _ _
theorem seen0_le (l : List Vu) (i : Nat) : Dle (cx Tryz.prog mixed tyT_ok E) (.v (.bool false)) (dB (seen l 0 i && fstV l i)) := by
  rw [seen_0, Bool.false_and]
  exact Dle.refl _ _
theorem seenN_le {l : List Vu} {i : Nat} (h : i < l.length) : Dle (cx Tryz.prog mixed tyT_ok E) (dB (seen l l.length i && fstV l i)) (dB (fstV l i)) := by
  rw [seen_all h, Bool.true_and]
  exact Dle.refl _ _
set_option maxHeartbeats 8000000 in
theorem firsts_sp (vl : List Vu) (hvl : vl.length ≤ 1000000000) : Sp (cx Tryz.prog mixed tyT_ok E) 19 [.rc (.vals vl)] (.sl 1 1 vl.length (fun i _ => dB (fstV vl i))) := by
  have c1 := ranked_sp E vl hvl
  refine Sp.body Tryz.func19 (by kernel_rfl) rfl (by kernel_rfl) (by kernel_rfl) (by kernel_rfl) ?_
  repeat' first
    | (refine codeW_cond rfl ?_; first | (refine condW_dec ?_ ?_ <;> intro _ <;> try (exfalso; omega)) | refine condW_not ?_ | (refine condW_bool ?_ ?_ <;> intro _ <;> try (exfalso; omega)))
    | (refine facW_intro ?_; intro _)
    | refine Or.inl ?_
    | ((conv => whnf); first | (refine condW_dec ?_ ?_ <;> intro _ <;> try (exfalso; omega)) | refine condW_not ?_ | (refine condW_bool ?_ ?_ <;> intro _ <;> try (exfalso; omega)) | (refine nbC_t (fun _ => ?_) ?_) | (refine nbC_f ?_ (fun _ => ?_)))
    | refine And.intro (by first | omega | (simp only [Int.toNat_natCast] at *; omega) | (simp only [Nat.reduceAdd, Int.cast_ofNat_Int, true_and, and_true]; omega)  | kernel_rfl) ?_
    | refine RegW.run ?_
    | refine ⟨_, c1, ?_⟩
    | fail
  refine ⟨Nat, fun i => [(18, i64 i)], fun i => [(15, .row 4 vl.length (fun j _ => dB (seen vl i j && fstV vl j)))], [], fun i => [], fun i => i ≤ vl.length, fun i => vl.length - i, ⟨0, Nat.zero_le _, ⟨[], ⟨by kernel_rfl, by kernel_rfl, by kernel_rfl, by kernel_rfl, by kernel_rfl, by kernel_rfl, by kernel_rfl⟩, (by repeat' first | ((intro i j hi hj; obtain rfl : j = 0 := (by have h : j < 1 := hj; omega); exact seen0_le E vl i)) | exact trivial | exact rfl | kernel_rfl | exact Dle.of_eq rfl | exact MLe.of_eq rfl | exact Dle.i (by omega) | exact Dle.i (by simp only [Int.toNat_natCast] at *; omega) | exact Dle.nil | exact Dle.rc Dle.nil | exact Option.some_ne_none _ | exact Or.inl rfl | exact Or.inr trivial | omega | (simp only [Int.toNat_natCast] at *; omega) | (intro _ _ _ _; exact Dle.of_eq rfl) | refine And.intro ?_ ?_)⟩⟩, fun i hi => ?_⟩
  have hi2 : i ≤ vl.length := hi
  by_cases hlt : i < vl.length
  · have b1 : ord vl ((i : Int)).toNat < vl.length := by rw [Int.toNat_natCast]; exact ord_lt hlt
    have b2 : ord vl i < vl.length := ord_lt hlt
    repeat' first
      | (refine codeW_cond rfl ?_; first | (refine condW_dec ?_ ?_ <;> intro _ <;> try (exfalso; omega)) | refine condW_not ?_ | (refine condW_bool ?_ ?_ <;> intro _ <;> try (exfalso; omega)))
      | (refine facW_intro ?_; intro _)
      | refine Or.inl ?_
      | ((conv => whnf); first | (refine condW_dec ?_ ?_ <;> intro _ <;> try (exfalso; omega)) | refine condW_not ?_ | (refine condW_bool ?_ ?_ <;> intro _ <;> try (exfalso; omega)) | (refine nbC_t (fun _ => ?_) ?_) | (refine nbC_f ?_ (fun _ => ?_)))
      | refine And.intro (by first | omega | (simp only [Int.toNat_natCast] at *; omega) | (simp only [Nat.reduceAdd, Int.cast_ofNat_Int, true_and, and_true]; omega)  | kernel_rfl) ?_
      | refine RegW.run ?_
      | fail
    all_goals first
      | (exfalso; omega)
      | exact ⟨i + 1, hlt, ⟨[], ⟨by kernel_rfl, by kernel_rfl, by kernel_rfl, by kernel_rfl, by kernel_rfl, by kernel_rfl, by kernel_rfl⟩, (by repeat' first | (first | exact Dle.i (by omega) | (intro i' j' hi' hj'; exact rw_seen E hlt (by first | rfl | simp) _ (by first | rfl | simp) hj')) | exact trivial | exact rfl | kernel_rfl | exact Dle.of_eq rfl | exact MLe.of_eq rfl | exact Dle.i (by omega) | exact Dle.i (by simp only [Int.toNat_natCast] at *; omega) | exact Dle.nil | exact Dle.rc Dle.nil | exact Option.some_ne_none _ | exact Or.inl rfl | exact Or.inr trivial | omega | (simp only [Int.toNat_natCast] at *; omega) | (intro _ _ _ _; exact Dle.of_eq rfl) | refine And.intro ?_ ?_)⟩, by first | omega | (dsimp only; omega)⟩
      | trace_state
  · obtain rfl : i = vl.length := by omega
    repeat' first
      | (refine codeW_cond rfl ?_; first | (refine condW_dec ?_ ?_ <;> intro _ <;> try (exfalso; omega)) | refine condW_not ?_ | (refine condW_bool ?_ ?_ <;> intro _ <;> try (exfalso; omega)))
      | (refine facW_intro ?_; intro _)
      | refine Or.inl ?_
      | ((conv => whnf); first | (refine condW_dec ?_ ?_ <;> intro _ <;> try (exfalso; omega)) | refine condW_not ?_ | (refine condW_bool ?_ ?_ <;> intro _ <;> try (exfalso; omega)) | (refine nbC_t (fun _ => ?_) ?_) | (refine nbC_f ?_ (fun _ => ?_)))
      | refine And.intro (by first | omega | (simp only [Int.toNat_natCast] at *; omega) | (simp only [Nat.reduceAdd, Int.cast_ofNat_Int, true_and, and_true]; omega)  | kernel_rfl) ?_
      | refine RegW.run ?_
      | fail
    all_goals first
      | (exfalso; omega)
      | exact Dle.sl (X := (cx Tryz.prog mixed tyT_ok E)) rfl (fun i j hi hj => seenN_le E hi)
      | trace_state
noncomputable abbrev SHS (b : List Vu) (v : Vu) : List (Nat × Ob RC) := [(2001, .cells [.rc (.vals b)]), (2002, .cells [.sl 1 8 b.length (rwI (ord b))]), (2003, .cells [i64 v.kind, dB v.b, i64 v.i, dS v.text, .rc (.vals v.items), encStrs v.keys])]
theorem conLess (b : List Vu) (v : Vu) (hb : b.length ≤ 1000000000) (k : Int) (h0 : 0 ≤ k) (hk : k < b.length) :
    SpH (cx Tryz.prog mixed tyT_ok E) 102 [i64 k, .ptr 2001 0, .ptr 2002 0, .ptr 2003 0] (SHS b v) (dB (decide (0 ≤ cmpV (b.getD (ord b k.toNat) .zero) v))) (SHS b v) := by
  obtain ⟨k, rfl⟩ : ∃ x : Nat, k = x := ⟨k.toNat, by omega⟩
  have b1 : ord b ((k : Int)).toNat < b.length := by rw [Int.toNat_natCast]; exact ord_lt (by omega)
  have c1 := compare_sp E _ (b.getD (ord b ((k : Int)).toNat) .zero) v (Nat.lt_succ_self _)
  generalize cmpV (b.getD (ord b ((k : Int)).toNat) .zero) v = z at c1
  refine SpH.body Tryz.func102 (by kernel_rfl) rfl (by kernel_rfl) (by kernel_rfl) (by kernel_rfl) ?_
  repeat' first
    | (refine codeW_cond rfl ?_; first | (refine condW_dec ?_ ?_ <;> intro _ <;> try (exfalso; omega)) | refine condW_not ?_ | (refine condW_bool ?_ ?_ <;> intro _ <;> try (exfalso; omega)))
    | (refine facW_intro ?_; intro _)
    | refine Or.inl ?_
    | ((conv => whnf); first | (refine condW_dec ?_ ?_ <;> intro _ <;> try (exfalso; omega)) | refine condW_not ?_ | (refine condW_bool ?_ ?_ <;> intro _ <;> try (exfalso; omega)) | (refine nbC_t (fun _ => ?_) ?_) | (refine nbC_f ?_ (fun _ => ?_)))
    | refine And.intro (by first | omega | (simp only [Int.toNat_natCast] at *; omega) | (simp only [Nat.reduceAdd, Int.cast_ofNat_Int, true_and, and_true]; omega)  | kernel_rfl) ?_
    | refine RegW.run ?_
    | refine ⟨_, c1, ?_⟩
    | fail
  all_goals first
    | (exfalso; omega)
    | exact ⟨[(2001, .cells [.rc (.vals b)]), (2002, .cells [.sl 1 8 b.length (rwI (ord b))]), (2003, .cells [i64 v.kind, dB v.b, i64 v.i, dS v.text, .rc (.vals v.items), encStrs v.keys])], [], rfl, ⟨[], ⟨by kernel_rfl, by kernel_rfl, by kernel_rfl, by kernel_rfl, by kernel_rfl, by kernel_rfl, by kernel_rfl⟩, (by repeat' first | exact trivial | exact rfl | kernel_rfl | exact Dle.of_eq rfl | exact MLe.of_eq rfl | exact Dle.i (by omega) | exact Dle.i (by simp only [Int.toNat_natCast] at *; omega) | exact Dle.nil | exact Dle.rc Dle.nil | exact Option.some_ne_none _ | exact Or.inl rfl | exact Or.inr trivial | omega | (simp only [Int.toNat_natCast] at *; omega) | (intro _ _ _ _; exact Dle.of_eq rfl) | refine And.intro ?_ ?_)⟩, rfl⟩
    | trace_state
set_option maxHeartbeats 4000000 in
theorem search_l (b : List Vu) (v : Vu) (hb : b.length ≤ 1000000000) (r : Nat) (hr : r ≤ b.length) (h1 : ∀ m, m < r → cmpV (b.getD (ord b m) .zero) v < 0) (h2 : r < b.length → 0 ≤ cmpV (b.getD (ord b r) .zero) v) :
    SpH (cx Tryz.prog mixed tyT_ok E) 101 [i64 b.length, .fn 102 [.ptr 2001 0, .ptr 2002 0, .ptr 2003 0]] (SHS b v) (i64 r) (SHS b v) := by
  refine SpH.body Tryz.func101 (by kernel_rfl) rfl (by kernel_rfl) (by kernel_rfl) (by kernel_rfl) ?_
  repeat' first
    | (refine codeW_cond rfl ?_; first | (refine condW_dec ?_ ?_ <;> intro _ <;> try (exfalso; omega)) | refine condW_not ?_ | (refine condW_bool ?_ ?_ <;> intro _ <;> try (exfalso; omega)))
    | (refine facW_intro ?_; intro _)
    | refine Or.inl ?_
    | ((conv => whnf); first | (refine condW_dec ?_ ?_ <;> intro _ <;> try (exfalso; omega)) | refine condW_not ?_ | (refine condW_bool ?_ ?_ <;> intro _ <;> try (exfalso; omega)) | (refine nbC_t (fun _ => ?_) ?_) | (refine nbC_f ?_ (fun _ => ?_)))
    | refine And.intro (by first | omega | (simp only [Int.toNat_natCast] at *; omega) | (simp only [Nat.reduceAdd, Int.cast_ofNat_Int, true_and, and_true]; omega)  | kernel_rfl) ?_
    | refine RegW.run ?_
    | fail
  refine ⟨Nat × Nat, fun k => [(5, i64 k.1), (6, i64 k.2)], fun k => [], [2001, 2002, 2003], fun k => [], fun k => k.1 ≤ r ∧ r ≤ k.2 ∧ k.2 ≤ b.length, fun k => k.2 - k.1, ⟨(0, b.length), ⟨Nat.zero_le _, hr, Nat.le_refl _⟩, ⟨[], ⟨by kernel_rfl, by kernel_rfl, by kernel_rfl, by kernel_rfl, by kernel_rfl, by kernel_rfl, by kernel_rfl⟩, (by repeat' first | exact trivial | exact rfl | kernel_rfl | exact Dle.of_eq rfl | exact MLe.of_eq rfl | exact Dle.i (by omega) | exact Dle.i (by simp only [Int.toNat_natCast] at *; omega) | exact Dle.nil | exact Dle.rc Dle.nil | exact Option.some_ne_none _ | exact Or.inl rfl | exact Or.inr trivial | omega | (simp only [Int.toNat_natCast] at *; omega) | (intro _ _ _ _; exact Dle.of_eq rfl) | refine And.intro ?_ ?_)⟩⟩, fun k hk => ?_⟩
  obtain ⟨k1, k2, k3⟩ := hk
  have hmid := mid_eq (k.1 : Int) (k.2 : Int) (by omega) (by omega) (by omega)
  by_cases hlt : k.1 < k.2
  · have hc := conLess E b v hb (IntKind.i64.wrap ((IntKind.u64.wrap ((k.1 : Int) + (k.2 : Int))).fdiv (2 ^ min (Int.toNat 1) IntKind.u64.bits))) (by omega) (by omega)
    have hm : (IntKind.i64.wrap ((IntKind.u64.wrap ((k.1 : Int) + (k.2 : Int))).fdiv (2 ^ min (Int.toNat 1) IntKind.u64.bits))).toNat = (k.1 + k.2) / 2 := by omega
    rw [hm] at hc
    obtain ⟨z, hz⟩ : ∃ z, z = cmpV (b.getD (ord b ((k.1 + k.2) / 2)) .zero) v := ⟨_, rfl⟩
    rw [← hz] at hc
    by_cases hz0 : 0 ≤ z
    · rw [decide_eq_true hz0] at hc
      have hrm : r ≤ (k.1 + k.2) / 2 := Nat.le_of_not_lt fun h => by have := h1 _ h; omega
      repeat' first
        | refine Or.inr ⟨_, _, _, Or.inl (hc), by kernel_rfl, (by repeat' first | exact trivial | exact rfl | kernel_rfl | exact Dle.of_eq rfl | exact MLe.of_eq rfl | exact Dle.i (by omega) | exact Dle.i (by simp only [Int.toNat_natCast] at *; omega) | exact Dle.nil | exact Dle.rc Dle.nil | exact Option.some_ne_none _ | exact Or.inl rfl | exact Or.inr trivial | omega | (simp only [Int.toNat_natCast] at *; omega) | (intro _ _ _ _; exact Dle.of_eq rfl) | refine And.intro ?_ ?_), ?_⟩
        | (refine codeW_cond rfl ?_; first | (refine condW_dec ?_ ?_ <;> intro _ <;> try (exfalso; omega)) | refine condW_not ?_ | (refine condW_bool ?_ ?_ <;> intro _ <;> try (exfalso; omega)))
        | (refine facW_intro ?_; intro _)
        | refine Or.inl ?_
        | ((conv => whnf); first | (refine condW_dec ?_ ?_ <;> intro _ <;> try (exfalso; omega)) | refine condW_not ?_ | (refine condW_bool ?_ ?_ <;> intro _ <;> try (exfalso; omega)) | (refine nbC_t (fun _ => ?_) ?_) | (refine nbC_f ?_ (fun _ => ?_)))
        | refine And.intro (by first | omega | (simp only [Int.toNat_natCast] at *; omega) | (simp only [Nat.reduceAdd, Int.cast_ofNat_Int, true_and, and_true]; omega)  | kernel_rfl) ?_
        | refine RegW.run ?_
        | fail
      all_goals first
        | (exfalso; omega)
        | exact ⟨(k.1, (k.1 + k.2) / 2), ⟨k1, hrm, by show (k.1 + k.2) / 2 ≤ b.length; omega⟩, ⟨[], ⟨by kernel_rfl, by kernel_rfl, by kernel_rfl, by kernel_rfl, by kernel_rfl, by kernel_rfl, by kernel_rfl⟩, (by repeat' first | (exact Dle.i (by show _ = (((k.1 + k.2) / 2 : Nat) : Int); omega)) | exact trivial | exact rfl | kernel_rfl | exact Dle.of_eq rfl | exact MLe.of_eq rfl | exact Dle.i (by omega) | exact Dle.i (by simp only [Int.toNat_natCast] at *; omega) | exact Dle.nil | exact Dle.rc Dle.nil | exact Option.some_ne_none _ | exact Or.inl rfl | exact Or.inr trivial | omega | (simp only [Int.toNat_natCast] at *; omega) | (intro _ _ _ _; exact Dle.of_eq rfl) | refine And.intro ?_ ?_)⟩, by first | omega | (dsimp only; omega)⟩
        | trace_state
    · rw [decide_eq_false hz0] at hc
      have hrm : (k.1 + k.2) / 2 < r := Nat.lt_of_not_le fun h => by
        have h3 := h2 (by omega)
        have := ord_mono (l := b) (v := v) h (by omega) h3
        omega
      repeat' first
        | refine Or.inr ⟨_, _, _, Or.inl (hc), by kernel_rfl, (by repeat' first | exact trivial | exact rfl | kernel_rfl | exact Dle.of_eq rfl | exact MLe.of_eq rfl | exact Dle.i (by omega) | exact Dle.i (by simp only [Int.toNat_natCast] at *; omega) | exact Dle.nil | exact Dle.rc Dle.nil | exact Option.some_ne_none _ | exact Or.inl rfl | exact Or.inr trivial | omega | (simp only [Int.toNat_natCast] at *; omega) | (intro _ _ _ _; exact Dle.of_eq rfl) | refine And.intro ?_ ?_), ?_⟩
        | (refine codeW_cond rfl ?_; first | (refine condW_dec ?_ ?_ <;> intro _ <;> try (exfalso; omega)) | refine condW_not ?_ | (refine condW_bool ?_ ?_ <;> intro _ <;> try (exfalso; omega)))
        | (refine facW_intro ?_; intro _)
        | refine Or.inl ?_
        | ((conv => whnf); first | (refine condW_dec ?_ ?_ <;> intro _ <;> try (exfalso; omega)) | refine condW_not ?_ | (refine condW_bool ?_ ?_ <;> intro _ <;> try (exfalso; omega)) | (refine nbC_t (fun _ => ?_) ?_) | (refine nbC_f ?_ (fun _ => ?_)))
        | refine And.intro (by first | omega | (simp only [Int.toNat_natCast] at *; omega) | (simp only [Nat.reduceAdd, Int.cast_ofNat_Int, true_and, and_true]; omega)  | kernel_rfl) ?_
        | refine RegW.run ?_
        | fail
      all_goals first
        | (exfalso; omega)
        | exact ⟨((k.1 + k.2) / 2 + 1, k.2), ⟨by show (k.1 + k.2) / 2 + 1 ≤ r; omega, k2, k3⟩, ⟨[], ⟨by kernel_rfl, by kernel_rfl, by kernel_rfl, by kernel_rfl, by kernel_rfl, by kernel_rfl, by kernel_rfl⟩, (by repeat' first | (exact Dle.i (by show _ = (((k.1 + k.2) / 2 + 1 : Nat) : Int); omega)) | exact trivial | exact rfl | kernel_rfl | exact Dle.of_eq rfl | exact MLe.of_eq rfl | exact Dle.i (by omega) | exact Dle.i (by simp only [Int.toNat_natCast] at *; omega) | exact Dle.nil | exact Dle.rc Dle.nil | exact Option.some_ne_none _ | exact Or.inl rfl | exact Or.inr trivial | omega | (simp only [Int.toNat_natCast] at *; omega) | (intro _ _ _ _; exact Dle.of_eq rfl) | refine And.intro ?_ ?_)⟩, by first | omega | (dsimp only; omega)⟩
        | trace_state
  · have hkr : k.1 = r := by omega
    repeat' first
      | (refine codeW_cond rfl ?_; first | (refine condW_dec ?_ ?_ <;> intro _ <;> try (exfalso; omega)) | refine condW_not ?_ | (refine condW_bool ?_ ?_ <;> intro _ <;> try (exfalso; omega)))
      | (refine facW_intro ?_; intro _)
      | refine Or.inl ?_
      | ((conv => whnf); first | (refine condW_dec ?_ ?_ <;> intro _ <;> try (exfalso; omega)) | refine condW_not ?_ | (refine condW_bool ?_ ?_ <;> intro _ <;> try (exfalso; omega)) | (refine nbC_t (fun _ => ?_) ?_) | (refine nbC_f ?_ (fun _ => ?_)))
      | refine And.intro (by first | omega | (simp only [Int.toNat_natCast] at *; omega) | (simp only [Nat.reduceAdd, Int.cast_ofNat_Int, true_and, and_true]; omega)  | kernel_rfl) ?_
      | refine RegW.run ?_
      | fail
    all_goals first
      | (exfalso; omega)
      | exact ⟨[(2001, .cells [.rc (.vals b)]), (2002, .cells [.sl 1 8 b.length (rwI (ord b))]), (2003, .cells [i64 v.kind, dB v.b, i64 v.i, dS v.text, .rc (.vals v.items), encStrs v.keys])], [], rfl, ⟨[], ⟨by kernel_rfl, by kernel_rfl, by kernel_rfl, by kernel_rfl, by kernel_rfl, by kernel_rfl, by kernel_rfl⟩, (by repeat' first | exact trivial | exact rfl | kernel_rfl | exact Dle.of_eq rfl | exact MLe.of_eq rfl | exact Dle.i (by omega) | exact Dle.i (by simp only [Int.toNat_natCast] at *; omega) | exact Dle.nil | exact Dle.rc Dle.nil | exact Option.some_ne_none _ | exact Or.inl rfl | exact Or.inr trivial | omega | (simp only [Int.toNat_natCast] at *; omega) | (intro _ _ _ _; exact Dle.of_eq rfl) | refine And.intro ?_ ?_)⟩, rfl⟩
      | trace_state
end
end rk
end Go.Proofs.YthoemnhigboahaaGreatDoor
namespace Go.Proofs.YthoemnhigboahaaGreatDoor
open Go.RowKit
set_option linter.unusedVariables false
set_option linter.unusedSimpArgs false
namespace rk
open sb sq
theorem place_ex (b : List Vu) (v : Vu) : ∃ r, r ≤ b.length ∧ (∀ m, m < r → cmpV (b.getD (ord b m) .zero) v < 0) ∧ (r < b.length → 0 ≤ cmpV (b.getD (ord b r) .zero) v) := by
  have h : ∀ n, n ≤ b.length → ∃ r, r ≤ n ∧ (∀ m, m < r → cmpV (b.getD (ord b m) .zero) v < 0) ∧ (r < n → 0 ≤ cmpV (b.getD (ord b r) .zero) v) := by
    intro n
    induction n with
    | zero => exact fun _ => ⟨0, Nat.le_refl _, fun m h => absurd h (Nat.not_lt_zero m), fun h => absurd h (Nat.lt_irrefl _)⟩
    | succ n ih =>
      intro hn
      obtain ⟨r, h1, h2, h3⟩ := ih (by omega)
      by_cases hr : r < n
      · exact ⟨r, by omega, h2, fun _ => h3 hr⟩
      · obtain rfl : r = n := by omega
        by_cases hc : cmpV (b.getD (ord b r) .zero) v < 0
        · exact ⟨r + 1, Nat.le_refl _, fun m hm => by
            by_cases e : m = r
            · rw [e]; exact hc
            · exact h2 m (by omega), fun h => absurd h (Nat.lt_irrefl _)⟩
        · exact ⟨r, by omega, h2, fun _ => by omega⟩
  exact h b.length (Nat.le_refl _)
section
variable (E : Env)
set_option maxRecDepth 100000
theorem search_9 (b : List Vu) (v : Vu) (hb : b.length ≤ 1000000000) (r : Nat) (hr : r ≤ b.length) (h1 : ∀ m, m < r → cmpV (b.getD (ord b m) .zero) v < 0) (h2 : r < b.length → 0 ≤ cmpV (b.getD (ord b r) .zero) v) :
    SpH (cx Tryz.prog mixed tyT_ok E) 101 [i64 b.length, .fn 102 [.ptr 3 0, .ptr 5 0, .ptr 9 0]] [(3, .cells [.rc (.vals b)]), (5, .cells [.sl 1 8 b.length (rwI (ord b))]), (9, .cells [i64 v.kind, dB v.b, i64 v.i, dS v.text, .rc (.vals v.items), encStrs v.keys])] (i64 r)
      [(3, .cells [.rc (.vals b)]), (5, .cells [.sl 1 8 b.length (rwI (ord b))]), (9, .cells [i64 v.kind, dB v.b, i64 v.i, dS v.text, .rc (.vals v.items), encStrs v.keys])] := by
  have h := ((search_l E b v hb r hr h1 h2).swap 2001 3).swap 2002 5 |>.swap 2003 9
  simp only [SHS, encStrs, D.renL, D.ren, renH, Ob.ren, List.map_cons, List.map_nil, swp_l, swp_no (show (2002 : Nat) ≠ 2001 by decide) (show (2002 : Nat) ≠ 3 by decide), swp_no (show (2003 : Nat) ≠ 2001 by decide) (show (2003 : Nat) ≠ 3 by decide),
    swp_no (show (3 : Nat) ≠ 2002 by decide) (show (3 : Nat) ≠ 5 by decide), swp_no (show (2003 : Nat) ≠ 2002 by decide) (show (2003 : Nat) ≠ 5 by decide),
    swp_no (show (3 : Nat) ≠ 2003 by decide) (show (3 : Nat) ≠ 9 by decide), swp_no (show (5 : Nat) ≠ 2003 by decide) (show (5 : Nat) ≠ 9 by decide)] at h
  exact h
set_option maxHeartbeats 8000000 in
theorem contains_sp (al bl : List Vu) (ha : al.length ≤ 1000000000) (hb : bl.length ≤ 1000000000) : Sp (cx Tryz.prog mixed tyT_ok E) 54 [.rc (.vals al), .rc (.vals bl)] (.sl 1 1 al.length (fun i _ => dB (inV bl (al.getD i .zero)))) := by
  have c1 := ranked_sp E bl hb
  refine Sp.body Tryz.func54 (by kernel_rfl) rfl (by kernel_rfl) (by kernel_rfl) (by kernel_rfl) ?_
  repeat' first
    | (refine codeW_cond rfl ?_; first | (refine condW_dec ?_ ?_ <;> intro _ <;> try (exfalso; omega)) | refine condW_not ?_ | (refine condW_bool ?_ ?_ <;> intro _ <;> try (exfalso; omega)))
    | (refine facW_intro ?_; intro _)
    | refine Or.inl ?_
    | ((conv => whnf); first | (refine condW_dec ?_ ?_ <;> intro _ <;> try (exfalso; omega)) | refine condW_not ?_ | (refine condW_bool ?_ ?_ <;> intro _ <;> try (exfalso; omega)) | (refine nbC_t (fun _ => ?_) ?_) | (refine nbC_f ?_ (fun _ => ?_)))
    | refine And.intro (by first | omega | (simp only [Int.toNat_natCast] at *; omega) | (simp only [Nat.reduceAdd, Int.cast_ofNat_Int, true_and, and_true]; omega)  | kernel_rfl) ?_
    | refine RegW.run ?_
    | refine ⟨_, c1, ?_⟩
    | fail
  refine ⟨Nat, fun i => [(21, i64 i)], fun i => [(18, .row 4 al.length (fun k _ => dB (decide (k < i) && inV bl (al.getD k .zero))))], [3, 5], fun i => [], fun i => i ≤ al.length, fun i => al.length - i, ⟨0, Nat.zero_le _, ⟨[], ⟨by kernel_rfl, by kernel_rfl, by kernel_rfl, by kernel_rfl, by kernel_rfl, by kernel_rfl, by kernel_rfl⟩, (by repeat' first | ((intro i j hi hj; obtain rfl : j = 0 := (by have h : j < 1 := hj; omega); exact bool0 E (fun k => inV bl (al.getD k .zero)) i)) | exact trivial | exact rfl | kernel_rfl | exact Dle.of_eq rfl | exact MLe.of_eq rfl | exact Dle.i (by omega) | exact Dle.i (by simp only [Int.toNat_natCast] at *; omega) | exact Dle.nil | exact Dle.rc Dle.nil | exact Option.some_ne_none _ | exact Or.inl rfl | exact Or.inr trivial | omega | (simp only [Int.toNat_natCast] at *; omega) | (intro _ _ _ _; exact Dle.of_eq rfl) | refine And.intro ?_ ?_)⟩⟩, fun i hi => ?_⟩
  have hi2 : i ≤ al.length := hi
  by_cases hlt : i < al.length
  · obtain ⟨r, hr, h1, h2⟩ := place_ex bl (al.getD i .zero)
    have c2 := search_9 E bl (al.getD i .zero) hb r hr h1 h2
    have hin := inV_search hr h1 h2
    have c3 := equal_sp E (bl.getD (ord bl ((r : Int)).toNat) .zero) (al.getD i .zero)
    have hz : cmpV (bl.getD (ord bl ((r : Int)).toNat) .zero) (al.getD i .zero) = cmpV (bl.getD (ord bl r) .zero) (al.getD i .zero) := by rw [Int.toNat_natCast]
    rw [hz] at c3
    clear hz h1 h2
    generalize cmpV (bl.getD (ord bl r) .zero) (al.getD i .zero) = z at c3 hin
    by_cases hrb : r < bl.length
    · have b1 : ord bl ((r : Int)).toNat < bl.length := by rw [Int.toNat_natCast]; exact ord_lt hrb
      rw [decide_eq_true hrb, Bool.true_and] at hin
      repeat' first
        | refine Or.inr ⟨_, _, _, Or.inl (c2), by kernel_rfl, (by repeat' first | exact trivial | exact rfl | kernel_rfl | exact Dle.of_eq rfl | exact MLe.of_eq rfl | exact Dle.i (by omega) | exact Dle.i (by simp only [Int.toNat_natCast] at *; omega) | exact Dle.nil | exact Dle.rc Dle.nil | exact Option.some_ne_none _ | exact Or.inl rfl | exact Or.inr trivial | omega | (simp only [Int.toNat_natCast] at *; omega) | (intro _ _ _ _; exact Dle.of_eq rfl) | refine And.intro ?_ ?_), ?_⟩
        | (refine codeW_cond rfl ?_; first | (refine condW_dec ?_ ?_ <;> intro _ <;> try (exfalso; omega)) | refine condW_not ?_ | (refine condW_bool ?_ ?_ <;> intro _ <;> try (exfalso; omega)))
        | (refine facW_intro ?_; intro _)
        | refine Or.inl ?_
        | ((conv => whnf); first | (refine condW_dec ?_ ?_ <;> intro _ <;> try (exfalso; omega)) | refine condW_not ?_ | (refine condW_bool ?_ ?_ <;> intro _ <;> try (exfalso; omega)) | (refine nbC_t (fun _ => ?_) ?_) | (refine nbC_f ?_ (fun _ => ?_)))
        | refine And.intro (by first | omega | (simp only [Int.toNat_natCast] at *; omega) | (simp only [Nat.reduceAdd, Int.cast_ofNat_Int, true_and, and_true]; omega)  | kernel_rfl) ?_
        | refine RegW.run ?_
        | refine ⟨_, c3, ?_⟩
        | fail
      all_goals first
        | (exfalso; omega)
        | exact ⟨i + 1, hlt, ⟨[], ⟨by kernel_rfl, by kernel_rfl, by kernel_rfl, by kernel_rfl, by kernel_rfl, by kernel_rfl, by kernel_rfl⟩, (by repeat' first | (first | exact Dle.i (by omega) | (intro i' j' hi' hj'; exact rw_bool E (fun k => inV bl (al.getD k .zero)) _ (by rw [hin]) hi' hj')) | exact trivial | exact rfl | kernel_rfl | exact Dle.of_eq rfl | exact MLe.of_eq rfl | exact Dle.i (by omega) | exact Dle.i (by simp only [Int.toNat_natCast] at *; omega) | exact Dle.nil | exact Dle.rc Dle.nil | exact Option.some_ne_none _ | exact Or.inl rfl | exact Or.inr trivial | omega | (simp only [Int.toNat_natCast] at *; omega) | (intro _ _ _ _; exact Dle.of_eq rfl) | refine And.intro ?_ ?_)⟩, by first | omega | (dsimp only; omega)⟩
        | trace_state
    · rw [decide_eq_false hrb, Bool.false_and] at hin
      repeat' first
        | refine Or.inr ⟨_, _, _, Or.inl (c2), by kernel_rfl, (by repeat' first | exact trivial | exact rfl | kernel_rfl | exact Dle.of_eq rfl | exact MLe.of_eq rfl | exact Dle.i (by omega) | exact Dle.i (by simp only [Int.toNat_natCast] at *; omega) | exact Dle.nil | exact Dle.rc Dle.nil | exact Option.some_ne_none _ | exact Or.inl rfl | exact Or.inr trivial | omega | (simp only [Int.toNat_natCast] at *; omega) | (intro _ _ _ _; exact Dle.of_eq rfl) | refine And.intro ?_ ?_), ?_⟩
        | (refine codeW_cond rfl ?_; first | (refine condW_dec ?_ ?_ <;> intro _ <;> try (exfalso; omega)) | refine condW_not ?_ | (refine condW_bool ?_ ?_ <;> intro _ <;> try (exfalso; omega)))
        | (refine facW_intro ?_; intro _)
        | refine Or.inl ?_
        | ((conv => whnf); first | (refine condW_dec ?_ ?_ <;> intro _ <;> try (exfalso; omega)) | refine condW_not ?_ | (refine condW_bool ?_ ?_ <;> intro _ <;> try (exfalso; omega)) | (refine nbC_t (fun _ => ?_) ?_) | (refine nbC_f ?_ (fun _ => ?_)))
        | refine And.intro (by first | omega | (simp only [Int.toNat_natCast] at *; omega) | (simp only [Nat.reduceAdd, Int.cast_ofNat_Int, true_and, and_true]; omega)  | kernel_rfl) ?_
        | refine RegW.run ?_
        | refine ⟨_, c3, ?_⟩
        | fail
      all_goals first
        | (exfalso; omega)
        | exact ⟨i + 1, hlt, ⟨[], ⟨by kernel_rfl, by kernel_rfl, by kernel_rfl, by kernel_rfl, by kernel_rfl, by kernel_rfl, by kernel_rfl⟩, (by repeat' first | (first | exact Dle.i (by omega) | (intro i' j' hi' hj'; exact rw_bool E (fun k => inV bl (al.getD k .zero)) _ (by rw [hin]) hi' hj')) | exact trivial | exact rfl | kernel_rfl | exact Dle.of_eq rfl | exact MLe.of_eq rfl | exact Dle.i (by omega) | exact Dle.i (by simp only [Int.toNat_natCast] at *; omega) | exact Dle.nil | exact Dle.rc Dle.nil | exact Option.some_ne_none _ | exact Or.inl rfl | exact Or.inr trivial | omega | (simp only [Int.toNat_natCast] at *; omega) | (intro _ _ _ _; exact Dle.of_eq rfl) | refine And.intro ?_ ?_)⟩, by first | omega | (dsimp only; omega)⟩
        | trace_state
  · obtain rfl : i = al.length := by omega
    repeat' first
      | (refine codeW_cond rfl ?_; first | (refine condW_dec ?_ ?_ <;> intro _ <;> try (exfalso; omega)) | refine condW_not ?_ | (refine condW_bool ?_ ?_ <;> intro _ <;> try (exfalso; omega)))
      | (refine facW_intro ?_; intro _)
      | refine Or.inl ?_
      | ((conv => whnf); first | (refine condW_dec ?_ ?_ <;> intro _ <;> try (exfalso; omega)) | refine condW_not ?_ | (refine condW_bool ?_ ?_ <;> intro _ <;> try (exfalso; omega)) | (refine nbC_t (fun _ => ?_) ?_) | (refine nbC_f ?_ (fun _ => ?_)))
      | refine And.intro (by first | omega | (simp only [Int.toNat_natCast] at *; omega) | (simp only [Nat.reduceAdd, Int.cast_ofNat_Int, true_and, and_true]; omega)  | kernel_rfl) ?_
      | refine RegW.run ?_
      | fail
    all_goals first
      | (exfalso; omega)
      | exact Dle.sl (X := (cx Tryz.prog mixed tyT_ok E)) rfl (fun i j hi hj => boolN E (fun k => inV bl (al.getD k .zero)) hi)
      | trace_state
end
end rk
end Go.Proofs.YthoemnhigboahaaGreatDoor
