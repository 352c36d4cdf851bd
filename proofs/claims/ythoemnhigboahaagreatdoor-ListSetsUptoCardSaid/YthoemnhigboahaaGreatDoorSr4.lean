/-
  Stable sorting of a lent row of ints under a closure with two captured variables: swapRange, rotate. (Printed by mk_sr.py.) Stable sorting of a lent row of ints under a closure with two captured variables: insertionSort. (Printed by mk_sr.py.)
-/
import Derived.Test.YthoemnhigboahaaGreatDoorSb2
namespace Go.Proofs.YthoemnhigboahaaGreatDoor
open Go.RowKit
set_option linter.unusedVariables false
set_option linter.unusedSimpArgs false
namespace sq
open sb
section
variable (E : Env)
abbrev SHR (n : Nat) (vl : List Vu) (π : Nat → Nat) : List (Nat × Ob RC) := [(2000, .row 3 n (rwI π)), (2001, .cells [.rc (.vals vl)]), (2002, .cells [.own 2000 1 0 n])]
noncomputable abbrev lsR (g n : Nat) : DD := .agg [.fn g [.ptr 2001 0, .ptr 2002 0], .fn 118 (swD n)]
set_option maxRecDepth 100000
theorem swapRange_l (n : Nat) (hn : n ≤ 1000000000) (vl : List Vu) (g : Nat) (π : Nat → Nat) (hπ : ∀ k, k < n → π k < n) (a b c : Int) (h0 : 0 ≤ a) (hc : 0 ≤ c) (hab : a + c ≤ b) (hb : b + c ≤ n) :
    SpH (cx Tryz.prog mixed tyT_ok E) 151 [lsR g n, i64 a, i64 b, i64 c] (SHR n vl π) (.tup []) (SHR n vl (sr π a.toNat b.toNat c.toNat)) := by
  obtain ⟨a, rfl⟩ : ∃ x : Nat, a = x := ⟨a.toNat, by omega⟩
  obtain ⟨b, rfl⟩ : ∃ x : Nat, b = x := ⟨b.toNat, by omega⟩
  obtain ⟨c, rfl⟩ : ∃ x : Nat, c = x := ⟨c.toNat, by omega⟩
  rw [Int.toNat_natCast, Int.toNat_natCast, Int.toNat_natCast]
  refine SpH.body Tryz.func151 (by kernel_rfl) rfl (by kernel_rfl) (by kernel_rfl) (by kernel_rfl) ?_
  repeat' first
    | (refine codeW_cond rfl ?_; first | (refine condW_dec ?_ ?_ <;> intro _ <;> try (exfalso; omega)) | refine condW_not ?_ | (refine condW_bool ?_ ?_ <;> intro _ <;> try (exfalso; omega)))
    | (refine facW_intro ?_; intro _)
    | refine Or.inl ?_
    | ((conv => whnf); first | (refine condW_dec ?_ ?_ <;> intro _ <;> try (exfalso; omega)) | refine condW_not ?_ | (refine condW_bool ?_ ?_ <;> intro _ <;> try (exfalso; omega)) | (refine nbC_t (fun _ => ?_) ?_) | (refine nbC_f ?_ (fun _ => ?_)))
    | refine And.intro (by first | omega | (simp only [Int.toNat_natCast] at *; omega) | (simp only [Nat.reduceAdd, Int.cast_ofNat_Int, true_and, and_true]; omega)  | kernel_rfl) ?_
    | refine RegW.run ?_
    | fail
  refine ⟨Nat, fun k => [(8, i64 k)], fun k => [(2000, .row 3 n (rwI (sr π a b k)))], [4, 2001, 2002], fun k => [], fun k => k ≤ c, fun k => c - k, ⟨0, by omega, ⟨[], ⟨by kernel_rfl, by kernel_rfl, by kernel_rfl, by kernel_rfl, by kernel_rfl, by kernel_rfl, by kernel_rfl⟩, (by repeat' first | ((intro i j hi hj; rw [sr_zero]; exact Dle.refl _ _)) | exact trivial | exact rfl | kernel_rfl | exact Dle.of_eq rfl | exact MLe.of_eq rfl | exact Dle.i (by omega) | exact Dle.i (by simp only [Int.toNat_natCast] at *; omega) | exact Dle.nil | exact Dle.rc Dle.nil | exact Option.some_ne_none _ | exact Or.inl rfl | exact Or.inr trivial | omega | (simp only [Int.toNat_natCast] at *; omega) | (intro _ _ _ _; exact Dle.of_eq rfl) | refine And.intro ?_ ?_)⟩⟩, fun k hk => ?_⟩
  have hk2 : k ≤ c := hk
  have hπk : ∀ q, q < n → sr π a b k q < n := fun q hq => by
    unfold sr
    repeat' split
    all_goals exact hπ _ (by omega)
  have hstep : k < c → sb.swp (sr π a b k) ((a : Int) + k).toNat ((b : Int) + k).toNat = sr π a b (k + 1) := fun h => by
    rw [show ((a : Int) + k).toNat = a + k by omega, show ((b : Int) + k).toNat = b + k by omega]
    by_cases he : a + k < b
    · exact sr_succ he
    · exfalso; omega
  repeat' first
    | refine Or.inr ⟨_, _, _, Or.inr (swap_x E n hn (sr π a b k) hπk _ _ (by omega) (by omega) (by omega) (by omega)), by kernel_rfl, (by repeat' first | exact trivial | exact rfl | kernel_rfl | exact Dle.of_eq rfl | exact MLe.of_eq rfl | exact Dle.i (by omega) | exact Dle.i (by simp only [Int.toNat_natCast] at *; omega) | exact Dle.nil | exact Dle.rc Dle.nil | exact Option.some_ne_none _ | exact Or.inl rfl | exact Or.inr trivial | omega | (simp only [Int.toNat_natCast] at *; omega) | (intro _ _ _ _; exact Dle.of_eq rfl) | refine And.intro ?_ ?_), ?_⟩
    | (refine codeW_cond rfl ?_; first | (refine condW_dec ?_ ?_ <;> intro _ <;> try (exfalso; omega)) | refine condW_not ?_ | (refine condW_bool ?_ ?_ <;> intro _ <;> try (exfalso; omega)))
    | (refine facW_intro ?_; intro _)
    | refine Or.inl ?_
    | ((conv => whnf); first | (refine condW_dec ?_ ?_ <;> intro _ <;> try (exfalso; omega)) | refine condW_not ?_ | (refine condW_bool ?_ ?_ <;> intro _ <;> try (exfalso; omega)) | (refine nbC_t (fun _ => ?_) ?_) | (refine nbC_f ?_ (fun _ => ?_)))
    | refine And.intro (by first | omega | (simp only [Int.toNat_natCast] at *; omega) | (simp only [Nat.reduceAdd, Int.cast_ofNat_Int, true_and, and_true]; omega)  | kernel_rfl) ?_
    | refine RegW.run ?_
    | fail
  all_goals first
    | (exfalso; omega)
    | exact ⟨k + 1, by omega, ⟨[], ⟨by kernel_rfl, by kernel_rfl, by kernel_rfl, by kernel_rfl, by kernel_rfl, by kernel_rfl, by kernel_rfl⟩, (by repeat' first | ((intro i j hi hj; rw [hstep (by omega)]; exact Dle.refl _ _)) | exact trivial | exact rfl | kernel_rfl | exact Dle.of_eq rfl | exact MLe.of_eq rfl | exact Dle.i (by omega) | exact Dle.i (by simp only [Int.toNat_natCast] at *; omega) | exact Dle.nil | exact Dle.rc Dle.nil | exact Option.some_ne_none _ | exact Or.inl rfl | exact Or.inr trivial | omega | (simp only [Int.toNat_natCast] at *; omega) | (intro _ _ _ _; exact Dle.of_eq rfl) | refine And.intro ?_ ?_)⟩, by first | omega | (dsimp only; omega)⟩
    | skip
  all_goals (obtain rfl : k = c := by omega)
  all_goals exact ⟨[(2000, .row 3 n (rwI (sr π a b k))), (2001, .cells [.rc (.vals vl)]), (2002, .cells [.own 2000 1 0 n])], [], rfl, ⟨[], ⟨by kernel_rfl, by kernel_rfl, by kernel_rfl, by kernel_rfl, by kernel_rfl, by kernel_rfl, by kernel_rfl⟩, trivial, (by repeat' first | exact trivial | exact rfl | kernel_rfl | exact Dle.of_eq rfl | exact MLe.of_eq rfl | exact Dle.i (by omega) | exact Dle.i (by simp only [Int.toNat_natCast] at *; omega) | exact Dle.nil | exact Dle.rc Dle.nil | exact Option.some_ne_none _ | exact Or.inl rfl | exact Or.inr trivial | omega | (simp only [Int.toNat_natCast] at *; omega) | (intro _ _ _ _; exact Dle.of_eq rfl) | refine And.intro ?_ ?_), trivial, trivial⟩, rfl⟩
theorem sr_in {π : Nat → Nat} {n a b c : Nat} (hπ : ∀ k, k < n → π k < n) (hab : a + c ≤ n) (hb : b + c ≤ n) : ∀ k, k < n → sr π a b c k < n := fun k hk => by
  unfold sr
  repeat' split
  all_goals exact hπ _ (by omega)
set_option maxHeartbeats 4000000 in
theorem rotate_l (n : Nat) (hn : n ≤ 1000000000) (vl : List Vu) (g : Nat) (π : Nat → Nat) (hπ : ∀ k, k < n → π k < n) (a m b : Int) (h0 : 0 ≤ a) (h1 : a < m) (h2 : m < b) (hb : b ≤ n) :
    SpH (cx Tryz.prog mixed tyT_ok E) 135 [lsR g n, i64 a, i64 m, i64 b] (SHR n vl π) (.tup []) (SHR n vl (rot π a.toNat m.toNat b.toNat)) := by
  obtain ⟨a, rfl⟩ : ∃ x : Nat, a = x := ⟨a.toNat, by omega⟩
  obtain ⟨b, rfl⟩ : ∃ x : Nat, b = x := ⟨b.toNat, by omega⟩
  obtain ⟨m, rfl⟩ : ∃ x : Nat, m = x := ⟨m.toNat, by omega⟩
  rw [Int.toNat_natCast, Int.toNat_natCast, Int.toNat_natCast]
  refine SpH.body Tryz.func135 (by kernel_rfl) rfl (by kernel_rfl) (by kernel_rfl) (by kernel_rfl) ?_
  repeat' first
    | (refine codeW_cond rfl ?_; first | (refine condW_dec ?_ ?_ <;> intro _ <;> try (exfalso; omega)) | refine condW_not ?_ | (refine condW_bool ?_ ?_ <;> intro _ <;> try (exfalso; omega)))
    | (refine facW_intro ?_; intro _)
    | refine Or.inl ?_
    | ((conv => whnf); first | (refine condW_dec ?_ ?_ <;> intro _ <;> try (exfalso; omega)) | refine condW_not ?_ | (refine condW_bool ?_ ?_ <;> intro _ <;> try (exfalso; omega)) | (refine nbC_t (fun _ => ?_) ?_) | (refine nbC_f ?_ (fun _ => ?_)))
    | refine And.intro (by first | omega | (simp only [Int.toNat_natCast] at *; omega) | (simp only [Nat.reduceAdd, Int.cast_ofNat_Int, true_and, and_true]; omega)  | kernel_rfl) ?_
    | refine RegW.run ?_
    | fail
  refine ⟨Nat × Nat × (Nat → Nat), fun k => [(8, i64 k.1), (9, i64 k.2.1)], fun k => [(2000, .row 3 n (rwI k.2.2))], [4, 2001, 2002], fun k => [], fun k => 0 < k.1 ∧ 0 < k.2.1 ∧ k.1 ≤ m ∧ m + k.2.1 ≤ n ∧ (∀ q, q < n → k.2.2 q < n) ∧ rot k.2.2 (m - k.1) m (m + k.2.1) = rot π a m b, fun k => k.1 + k.2.1, ⟨(m - a, b - m, π), ⟨by show 0 < m - a; omega, by show 0 < b - m; omega, by show m - a ≤ m; omega, by show m + (b - m) ≤ n; omega, hπ, by show rot π (m - (m - a)) m (m + (b - m)) = rot π a m b; rw [show m - (m - a) = a by omega, show m + (b - m) = b by omega]⟩, ⟨[], ⟨by kernel_rfl, by kernel_rfl, by kernel_rfl, by kernel_rfl, by kernel_rfl, by kernel_rfl, by kernel_rfl⟩, (by repeat' first | (first | (intro i j hi hj; exact Dle.refl _ _) | exact Dle.i (show (m : Int) - a = ((m - a : Nat) : Int) by omega) | exact Dle.i (show (b : Int) - m = ((b - m : Nat) : Int) by omega)) | exact trivial | exact rfl | kernel_rfl | exact Dle.of_eq rfl | exact MLe.of_eq rfl | exact Dle.i (by omega) | exact Dle.i (by simp only [Int.toNat_natCast] at *; omega) | exact Dle.nil | exact Dle.rc Dle.nil | exact Option.some_ne_none _ | exact Or.inl rfl | exact Or.inr trivial | omega | (simp only [Int.toNat_natCast] at *; omega) | (intro _ _ _ _; exact Dle.of_eq rfl) | refine And.intro ?_ ?_)⟩⟩, fun k hk => ?_⟩
  obtain ⟨q1, q2, q3, q4, q5, q6⟩ := hk
  have hw : rot k.2.2 (m - k.1) m (m + k.2.1) = rot π a m b := q6
  have e1 : k.2.1 < k.1 → sr k.2.2 ((m : Int) - k.1).toNat ((m : Int)).toNat ((k.2.1 : Int)).toNat = sr k.2.2 (m - k.1) m k.2.1 := fun _ => by
    rw [show ((m : Int) - k.1).toNat = m - k.1 by omega, Int.toNat_natCast, Int.toNat_natCast]
  have r1 : k.2.1 < k.1 → rot (sr k.2.2 (m - k.1) m k.2.1) (m - (k.1 - k.2.1)) m (m + k.2.1) = rot π a m b := fun h => by
    rw [show m - (k.1 - k.2.1) = m - k.1 + k.2.1 by omega, rot_big h q3, hw]
  have e2 : k.1 < k.2.1 → sr k.2.2 ((m : Int) - k.1).toNat ((m : Int) + k.2.1 - k.1).toNat ((k.1 : Int)).toNat = sr k.2.2 (m - k.1) (m + k.2.1 - k.1) k.1 := fun _ => by
    rw [show ((m : Int) - k.1).toNat = m - k.1 by omega, show ((m : Int) + k.2.1 - k.1).toNat = m + k.2.1 - k.1 by omega, Int.toNat_natCast]
  have r2 : k.1 < k.2.1 → rot (sr k.2.2 (m - k.1) (m + k.2.1 - k.1) k.1) (m - k.1) m (m + (k.2.1 - k.1)) = rot π a m b := fun h => by
    rw [show m + (k.2.1 - k.1) = m + k.2.1 - k.1 by omega, rot_small h q3, hw]
  have e3 : k.1 = k.2.1 → sr k.2.2 ((m : Int) - k.1).toNat ((m : Int)).toNat ((k.1 : Int)).toNat = rot π a m b := fun h => by
    rw [show ((m : Int) - k.1).toNat = m - k.1 by omega, Int.toNat_natCast, Int.toNat_natCast, rot_even q3, ← hw, h]
  repeat' first
    | refine Or.inr ⟨_, _, _, Or.inl (swapRange_l E n hn vl g k.2.2 q5 _ _ _ (by omega) (by omega) (by omega) (by omega)), by kernel_rfl, (by repeat' first | exact trivial | exact rfl | kernel_rfl | exact Dle.of_eq rfl | exact MLe.of_eq rfl | exact Dle.i (by omega) | exact Dle.i (by simp only [Int.toNat_natCast] at *; omega) | exact Dle.nil | exact Dle.rc Dle.nil | exact Option.some_ne_none _ | exact Or.inl rfl | exact Or.inr trivial | omega | (simp only [Int.toNat_natCast] at *; omega) | (intro _ _ _ _; exact Dle.of_eq rfl) | refine And.intro ?_ ?_), ?_⟩
    | (refine codeW_cond rfl ?_; first | (refine condW_dec ?_ ?_ <;> intro _ <;> try (exfalso; omega)) | refine condW_not ?_ | (refine condW_bool ?_ ?_ <;> intro _ <;> try (exfalso; omega)))
    | (refine facW_intro ?_; intro _)
    | refine Or.inl ?_
    | ((conv => whnf); first | (refine condW_dec ?_ ?_ <;> intro _ <;> try (exfalso; omega)) | refine condW_not ?_ | (refine condW_bool ?_ ?_ <;> intro _ <;> try (exfalso; omega)) | (refine nbC_t (fun _ => ?_) ?_) | (refine nbC_f ?_ (fun _ => ?_)))
    | refine And.intro (by first | omega | (simp only [Int.toNat_natCast] at *; omega) | (simp only [Nat.reduceAdd, Int.cast_ofNat_Int, true_and, and_true]; omega)  | kernel_rfl) ?_
    | refine RegW.run ?_
    | fail
  all_goals first
    | (exfalso; omega)
    | exact ⟨(k.1 - k.2.1, k.2.1, sr k.2.2 (m - k.1) m k.2.1), ⟨by show 0 < k.1 - k.2.1; omega, q2, by show k.1 - k.2.1 ≤ m; omega, q4, sr_in q5 (by omega) (by omega), r1 (by omega)⟩, ⟨[], ⟨by kernel_rfl, by kernel_rfl, by kernel_rfl, by kernel_rfl, by kernel_rfl, by kernel_rfl, by kernel_rfl⟩, (by repeat' first | (first | (intro i j hi hj; rw [e1 (by omega)]; exact Dle.refl _ _) | exact Dle.i (show (k.1 : Int) - k.2.1 = ((k.1 - k.2.1 : Nat) : Int) by omega)) | exact trivial | exact rfl | kernel_rfl | exact Dle.of_eq rfl | exact MLe.of_eq rfl | exact Dle.i (by omega) | exact Dle.i (by simp only [Int.toNat_natCast] at *; omega) | exact Dle.nil | exact Dle.rc Dle.nil | exact Option.some_ne_none _ | exact Or.inl rfl | exact Or.inr trivial | omega | (simp only [Int.toNat_natCast] at *; omega) | (intro _ _ _ _; exact Dle.of_eq rfl) | refine And.intro ?_ ?_)⟩, by first | omega | (dsimp only; omega)⟩
    | exact ⟨(k.1, k.2.1 - k.1, sr k.2.2 (m - k.1) (m + k.2.1 - k.1) k.1), ⟨q1, by show 0 < k.2.1 - k.1; omega, q3, by show m + (k.2.1 - k.1) ≤ n; omega, sr_in q5 (by omega) (by omega), r2 (by omega)⟩, ⟨[], ⟨by kernel_rfl, by kernel_rfl, by kernel_rfl, by kernel_rfl, by kernel_rfl, by kernel_rfl, by kernel_rfl⟩, (by repeat' first | (first | (intro i j hi hj; rw [e2 (by omega)]; exact Dle.refl _ _) | exact Dle.i (show (k.2.1 : Int) - k.1 = ((k.2.1 - k.1 : Nat) : Int) by omega)) | exact trivial | exact rfl | kernel_rfl | exact Dle.of_eq rfl | exact MLe.of_eq rfl | exact Dle.i (by omega) | exact Dle.i (by simp only [Int.toNat_natCast] at *; omega) | exact Dle.nil | exact Dle.rc Dle.nil | exact Option.some_ne_none _ | exact Or.inl rfl | exact Or.inr trivial | omega | (simp only [Int.toNat_natCast] at *; omega) | (intro _ _ _ _; exact Dle.of_eq rfl) | refine And.intro ?_ ?_)⟩, by first | omega | (dsimp only; omega)⟩
    | exact ⟨[(2000, .row 3 n (rwI (rot π a m b))), (2001, .cells [.rc (.vals vl)]), (2002, .cells [.own 2000 1 0 n])], [], rfl, ⟨[], ⟨by kernel_rfl, by kernel_rfl, by kernel_rfl, by kernel_rfl, by kernel_rfl, by kernel_rfl, by kernel_rfl⟩, (by repeat' first | ((intro i j hi hj; rw [e3 (by omega)]; exact Dle.refl _ _)) | exact trivial | exact rfl | kernel_rfl | exact Dle.of_eq rfl | exact MLe.of_eq rfl | exact Dle.i (by omega) | exact Dle.i (by simp only [Int.toNat_natCast] at *; omega) | exact Dle.nil | exact Dle.rc Dle.nil | exact Option.some_ne_none _ | exact Or.inl rfl | exact Or.inr trivial | omega | (simp only [Int.toNat_natCast] at *; omega) | (intro _ _ _ _; exact Dle.of_eq rfl) | refine And.intro ?_ ?_)⟩, rfl⟩
    | trace_state
end
end sq
end Go.Proofs.YthoemnhigboahaaGreatDoor
namespace Go.Proofs.YthoemnhigboahaaGreatDoor
open Go.RowKit
set_option linter.unusedVariables false
set_option linter.unusedSimpArgs false
namespace sq
open sb
section
variable {lt : Nat → Nat → Bool}
theorem srt_in {π : Nat → Nat} {n a b : Nat} (hw : Wk lt) (hd : ∀ k l, a ≤ k → k < l → l < b → π k ≠ π l) (hπ : ∀ k, k < n → π k < n) (hb : b ≤ n) : ∀ k, k < n → srt lt id π a b k < n := fun k hk => by
  have hp := (srt_spec (g := id) hw hd).2
  by_cases h : a ≤ k ∧ k < b
  · obtain ⟨l, h1, h2, h3⟩ := hp.mem h.1 h.2
    rw [h3]
    exact hπ l (by omega)
  · rw [hp.1 k h]
    exact hπ k hk
theorem rot_in {π : Nat → Nat} {n a m b : Nat} (hπ : ∀ k, k < n → π k < n) (h1 : a ≤ m) (h2 : m ≤ b) (hb : b ≤ n) : ∀ k, k < n → rot π a m b k < n := fun k hk => by
  unfold rot
  repeat' split
  all_goals exact hπ _ (by omega)
theorem inc_ne {π : Nat → Nat} {a b : Nat} (hi : ∀ k l, a ≤ k → k < l → l < b → π k < π l) : ∀ k l, a ≤ k → k < l → l < b → π k ≠ π l := fun k l h1 h2 h3 => by have := hi k l h1 h2 h3; omega
theorem ins_end {π : Nat → Nat} {a b i j : Nat} (hw : Wk lt) (hi : ∀ k l, a ≤ k → k < l → l < b → π k < π l) (hib : i < b) (haj : a ≤ j) (hji : j ≤ i)
    (h1 : ∀ l, j ≤ l → l < i → lt (srt lt id π a i i) (srt lt id π a i l) = true) (h2 : j = a ∨ lt (srt lt id π a i i) (srt lt id π a i (j - 1)) = false) :
    srt lt id π a (i + 1) = rot (srt lt id π a i) j i (i + 1) := by
  obtain ⟨hs, hp⟩ := srt_spec (lt := lt) (g := id) hw (inc_ne (fun k l q1 q2 q3 => hi k l q1 q2 (by omega : l < b))) (a := a) (b := i) (p := π)
  generalize srt lt id π a i = q at h1 h2 hs hp ⊢
  have hq : q i = π i := hp.1 i (by omega)
  have hlt : ∀ k, a ≤ k → k < i → q k < q i := fun k k1 k2 => by
    obtain ⟨l, l1, l2, l3⟩ := hp.mem k1 k2
    rw [l3, hq]
    exact hi l i l1 l2 hib
  refine srt_eq hw (rot_srt (e := i + 1) hs (fun k l q1 q2 q3 => by omega) haj hji (by omega) (by omega) (fun c r c1 c2 r1 r2 => ?_) (fun c r c1 c2 r1 r2 => ?_) (fun c r c1 c2 r1 r2 => by omega)) (((rot_prm q hji (by omega)).wide haj (by omega) (by omega)).trans (hp.wide (by omega) (by omega) (by omega)))
  · obtain rfl : r = i := by omega
    rcases h2 with h2 | h2
    · omega
    · have ht : T lt id (q (j - 1)) (q r) := T.not hw (hlt _ (by omega) (by omega)) h2
      by_cases e : c = j - 1
      · rw [e]; exact ht
      · exact (hs c (j - 1) c1 (by omega) (by omega)).trans hw ht
  · obtain rfl : r = i := by omega
    exact .inl (h1 c c1 c2)
theorem rot_at1 {q : Nat → Nat} {j i : Nat} (h : j ≤ i) : rot q j i (i + 1) j = q i := by
  unfold rot
  rw [if_pos (by omega)]
  congr 1
  omega
theorem rot_at2 {q : Nat → Nat} {j i l : Nat} (h : l < j) : rot q j i (i + 1) l = q l := by
  unfold rot
  rw [if_neg (by omega), if_neg (by omega)]
section
variable (E : Env)
set_option maxRecDepth 100000
def LessR (n : Nat) (vl : List Vu) (g : Nat) (lt : Nat → Nat → Bool) : Prop :=
  ∀ (π : Nat → Nat), (∀ k, k < n → π k < n) → ∀ i j : Int, 0 ≤ i → i < n → 0 ≤ j → j < n → SpH (cx Tryz.prog mixed tyT_ok E) g [i64 i, i64 j, .ptr 2001 0, .ptr 2002 0] (SHR n vl π) (dB (lt (π i.toNat) (π j.toNat))) (SHR n vl π)
set_option maxHeartbeats 8000000 in
theorem insSort_l (n : Nat) (hn : n ≤ 1000000000) (vl : List Vu) (g : Nat) (hw : Wk lt) (hl : LessR E n vl g lt) (π : Nat → Nat) (hπ : ∀ k, k < n → π k < n) (a b : Int) (h0 : 0 ≤ a) (hab : a ≤ b) (hb : b ≤ n) (hinc : ∀ k l, a.toNat ≤ k → k < l → l < b.toNat → π k < π l) :
    SpH (cx Tryz.prog mixed tyT_ok E) 123 [lsR g n, i64 a, i64 b] (SHR n vl π) (.tup []) (SHR n vl (srt lt id π a.toNat b.toNat)) := by
  obtain ⟨a, rfl⟩ : ∃ x : Nat, a = x := ⟨a.toNat, by omega⟩
  obtain ⟨b, rfl⟩ : ∃ x : Nat, b = x := ⟨b.toNat, by omega⟩
  rw [Int.toNat_natCast, Int.toNat_natCast] at *
  have hone : srt lt id π a (a + 1) = π := srt_self hw (fun k l q1 q2 q3 => by omega)
  refine SpH.body Tryz.func123 (by kernel_rfl) rfl (by kernel_rfl) (by kernel_rfl) (by kernel_rfl) ?_
  repeat' first
    | (refine codeW_cond rfl ?_; first | (refine condW_dec ?_ ?_ <;> intro _ <;> try (exfalso; omega)) | refine condW_not ?_ | (refine condW_bool ?_ ?_ <;> intro _ <;> try (exfalso; omega)))
    | (refine facW_intro ?_; intro _)
    | refine Or.inl ?_
    | ((conv => whnf); first | (refine condW_dec ?_ ?_ <;> intro _ <;> try (exfalso; omega)) | refine condW_not ?_ | (refine condW_bool ?_ ?_ <;> intro _ <;> try (exfalso; omega)) | (refine nbC_t (fun _ => ?_) ?_) | (refine nbC_f ?_ (fun _ => ?_)))
    | refine And.intro (by first | omega | (simp only [Int.toNat_natCast] at *; omega) | (simp only [Nat.reduceAdd, Int.cast_ofNat_Int, true_and, and_true]; omega)  | kernel_rfl) ?_
    | refine RegW.run ?_
    | fail
  refine ⟨Nat, fun i => [(6, i64 i)], fun i => [(2000, .row 3 n (rwI (srt lt id π a i)))], [3, 2001, 2002], fun i => [], fun i => a < i ∧ i ≤ b + 1 ∧ (i = b + 1 → b = a), fun i => b + 1 - i, ⟨a + 1, by omega, ⟨[], ⟨by kernel_rfl, by kernel_rfl, by kernel_rfl, by kernel_rfl, by kernel_rfl, by kernel_rfl, by kernel_rfl⟩, (by repeat' first | (first | (intro i' j' hi' hj'; rw [hone]; exact Dle.refl _ _) | exact Dle.i (by omega)) | exact trivial | exact rfl | kernel_rfl | exact Dle.of_eq rfl | exact MLe.of_eq rfl | exact Dle.i (by omega) | exact Dle.i (by simp only [Int.toNat_natCast] at *; omega) | exact Dle.nil | exact Dle.rc Dle.nil | exact Option.some_ne_none _ | exact Or.inl rfl | exact Or.inr trivial | omega | (simp only [Int.toNat_natCast] at *; omega) | (intro _ _ _ _; exact Dle.of_eq rfl) | refine And.intro ?_ ?_)⟩⟩, fun i hi => ?_⟩
  obtain ⟨i1, i2, i3⟩ := hi
  by_cases hib : i < b
  · have hin : ∀ k, k < n → srt lt id π a i k < n := srt_in hw (inc_ne fun k l q1 q2 q3 => hinc k l q1 q2 (by omega)) hπ (by omega)
    repeat' first
      | (refine codeW_cond rfl ?_; first | (refine condW_dec ?_ ?_ <;> intro _ <;> try (exfalso; omega)) | refine condW_not ?_ | (refine condW_bool ?_ ?_ <;> intro _ <;> try (exfalso; omega)))
      | (refine facW_intro ?_; intro _)
      | refine Or.inl ?_
      | ((conv => whnf); first | (refine condW_dec ?_ ?_ <;> intro _ <;> try (exfalso; omega)) | refine condW_not ?_ | (refine condW_bool ?_ ?_ <;> intro _ <;> try (exfalso; omega)) | (refine nbC_t (fun _ => ?_) ?_) | (refine nbC_f ?_ (fun _ => ?_)))
      | refine And.intro (by first | omega | (simp only [Int.toNat_natCast] at *; omega) | (simp only [Nat.reduceAdd, Int.cast_ofNat_Int, true_and, and_true]; omega)  | kernel_rfl) ?_
      | refine RegW.run ?_
      | fail
    refine ⟨Nat, fun j => [(7, i64 j)], fun j => [(2000, .row 3 n (rwI (rot (srt lt id π a i) j i (i + 1))))], [3, 2001, 2002], fun j => [], fun j => a ≤ j ∧ j ≤ i ∧ ∀ l, j ≤ l → l < i → lt (srt lt id π a i i) (srt lt id π a i l) = true, fun j => j, ⟨i, ⟨by omega, by omega, fun l l1 l2 => by omega⟩, ⟨[], ⟨by kernel_rfl, by kernel_rfl, by kernel_rfl, by kernel_rfl, by kernel_rfl, by kernel_rfl, by kernel_rfl⟩, (by repeat' first | ((intro i' j' hi' hj'; rw [rot_none1]; exact Dle.refl _ _)) | exact trivial | exact rfl | kernel_rfl | exact Dle.of_eq rfl | exact MLe.of_eq rfl | exact Dle.i (by omega) | exact Dle.i (by simp only [Int.toNat_natCast] at *; omega) | exact Dle.nil | exact Dle.rc Dle.nil | exact Option.some_ne_none _ | exact Or.inl rfl | exact Or.inr trivial | omega | (simp only [Int.toNat_natCast] at *; omega) | (intro _ _ _ _; exact Dle.of_eq rfl) | refine And.intro ?_ ?_)⟩⟩, fun j hj => ?_⟩
    obtain ⟨j1, j2, j3⟩ := hj
    have hin2 := rot_in (a := j) (m := i) (b := i + 1) hin j2 (by omega) (by omega)
    by_cases haj : a < j
    · have hl2 := hl (rot (srt lt id π a i) j i (i + 1)) hin2 (j : Int) ((j : Int) - 1) (by omega) (by omega) (by omega) (by omega)
      have hv : lt (rot (srt lt id π a i) j i (i + 1) ((j : Int)).toNat) (rot (srt lt id π a i) j i (i + 1) ((j : Int) - 1).toNat) = lt (srt lt id π a i i) (srt lt id π a i (j - 1)) := by
        rw [Int.toNat_natCast, show ((j : Int) - 1).toNat = j - 1 by omega, rot_at1 j2, rot_at2 (by omega)]
      rw [hv] at hl2
      cases hbv : lt (srt lt id π a i i) (srt lt id π a i (j - 1))
      · rw [hbv] at hl2
        have hend := (ins_end hw hinc hib j1 j2 j3 (.inr hbv)).symm
        repeat' first
          | refine Or.inr ⟨_, _, _, Or.inl (hl2), by kernel_rfl, (by repeat' first | exact trivial | exact rfl | kernel_rfl | exact Dle.of_eq rfl | exact MLe.of_eq rfl | exact Dle.i (by omega) | exact Dle.i (by simp only [Int.toNat_natCast] at *; omega) | exact Dle.nil | exact Dle.rc Dle.nil | exact Option.some_ne_none _ | exact Or.inl rfl | exact Or.inr trivial | omega | (simp only [Int.toNat_natCast] at *; omega) | (intro _ _ _ _; exact Dle.of_eq rfl) | refine And.intro ?_ ?_), ?_⟩
          | (refine codeW_cond rfl ?_; first | (refine condW_dec ?_ ?_ <;> intro _ <;> try (exfalso; omega)) | refine condW_not ?_ | (refine condW_bool ?_ ?_ <;> intro _ <;> try (exfalso; omega)))
          | (refine facW_intro ?_; intro _)
          | refine Or.inl ?_
          | ((conv => whnf); first | (refine condW_dec ?_ ?_ <;> intro _ <;> try (exfalso; omega)) | refine condW_not ?_ | (refine condW_bool ?_ ?_ <;> intro _ <;> try (exfalso; omega)) | (refine nbC_t (fun _ => ?_) ?_) | (refine nbC_f ?_ (fun _ => ?_)))
          | refine And.intro (by first | omega | (simp only [Int.toNat_natCast] at *; omega) | (simp only [Nat.reduceAdd, Int.cast_ofNat_Int, true_and, and_true]; omega)  | kernel_rfl) ?_
          | refine RegW.run ?_
          | fail
        all_goals first
          | (exfalso; omega)
          | exact ⟨i + 1, by omega, ⟨[], ⟨by kernel_rfl, by kernel_rfl, by kernel_rfl, by kernel_rfl, by kernel_rfl, by kernel_rfl, by kernel_rfl⟩, (by repeat' first | (first | (intro i' j' hi' hj'; rw [hend]; exact Dle.refl _ _) | exact Dle.i (by omega)) | exact trivial | exact rfl | kernel_rfl | exact Dle.of_eq rfl | exact MLe.of_eq rfl | exact Dle.i (by omega) | exact Dle.i (by simp only [Int.toNat_natCast] at *; omega) | exact Dle.nil | exact Dle.rc Dle.nil | exact Option.some_ne_none _ | exact Or.inl rfl | exact Or.inr trivial | omega | (simp only [Int.toNat_natCast] at *; omega) | (intro _ _ _ _; exact Dle.of_eq rfl) | refine And.intro ?_ ?_)⟩, by first | omega | (dsimp only; omega)⟩
          | trace_state
      · rw [hbv] at hl2
        have hdn : sb.swp (rot (srt lt id π a i) j i (i + 1)) ((j : Int)).toNat ((j : Int) - 1).toNat = rot (srt lt id π a i) (j - 1) i (i + 1) := by
          rw [Int.toNat_natCast, show ((j : Int) - 1).toNat = j - 1 by omega, rot_down j2 (by omega)]
        have hj4 : ∀ l, j - 1 ≤ l → l < i → lt (srt lt id π a i i) (srt lt id π a i l) = true := fun l l1 l2 => by
          by_cases e : l = j - 1
          · rw [e]; exact hbv
          · exact j3 l (by omega) l2
        repeat' first
          | refine Or.inr ⟨_, _, _, Or.inl (hl2), by kernel_rfl, (by repeat' first | exact trivial | exact rfl | kernel_rfl | exact Dle.of_eq rfl | exact MLe.of_eq rfl | exact Dle.i (by omega) | exact Dle.i (by simp only [Int.toNat_natCast] at *; omega) | exact Dle.nil | exact Dle.rc Dle.nil | exact Option.some_ne_none _ | exact Or.inl rfl | exact Or.inr trivial | omega | (simp only [Int.toNat_natCast] at *; omega) | (intro _ _ _ _; exact Dle.of_eq rfl) | refine And.intro ?_ ?_), ?_⟩
          | refine Or.inr ⟨_, _, _, Or.inr (swap_x E n hn (rot (srt lt id π a i) j i (i + 1)) hin2 _ _ (by omega) (by omega) (by omega) (by omega)), by kernel_rfl, (by repeat' first | exact trivial | exact rfl | kernel_rfl | exact Dle.of_eq rfl | exact MLe.of_eq rfl | exact Dle.i (by omega) | exact Dle.i (by simp only [Int.toNat_natCast] at *; omega) | exact Dle.nil | exact Dle.rc Dle.nil | exact Option.some_ne_none _ | exact Or.inl rfl | exact Or.inr trivial | omega | (simp only [Int.toNat_natCast] at *; omega) | (intro _ _ _ _; exact Dle.of_eq rfl) | refine And.intro ?_ ?_), ?_⟩
          | (refine codeW_cond rfl ?_; first | (refine condW_dec ?_ ?_ <;> intro _ <;> try (exfalso; omega)) | refine condW_not ?_ | (refine condW_bool ?_ ?_ <;> intro _ <;> try (exfalso; omega)))
          | (refine facW_intro ?_; intro _)
          | refine Or.inl ?_
          | ((conv => whnf); first | (refine condW_dec ?_ ?_ <;> intro _ <;> try (exfalso; omega)) | refine condW_not ?_ | (refine condW_bool ?_ ?_ <;> intro _ <;> try (exfalso; omega)) | (refine nbC_t (fun _ => ?_) ?_) | (refine nbC_f ?_ (fun _ => ?_)))
          | refine And.intro (by first | omega | (simp only [Int.toNat_natCast] at *; omega) | (simp only [Nat.reduceAdd, Int.cast_ofNat_Int, true_and, and_true]; omega)  | kernel_rfl) ?_
          | refine RegW.run ?_
          | fail
        all_goals first
          | (exfalso; omega)
          | exact ⟨j - 1, ⟨by omega, by omega, hj4⟩, ⟨[], ⟨by kernel_rfl, by kernel_rfl, by kernel_rfl, by kernel_rfl, by kernel_rfl, by kernel_rfl, by kernel_rfl⟩, (by repeat' first | (first | (intro i' j' hi' hj'; rw [hdn]; exact Dle.refl _ _) | exact Dle.i (by omega)) | exact trivial | exact rfl | kernel_rfl | exact Dle.of_eq rfl | exact MLe.of_eq rfl | exact Dle.i (by omega) | exact Dle.i (by simp only [Int.toNat_natCast] at *; omega) | exact Dle.nil | exact Dle.rc Dle.nil | exact Option.some_ne_none _ | exact Or.inl rfl | exact Or.inr trivial | omega | (simp only [Int.toNat_natCast] at *; omega) | (intro _ _ _ _; exact Dle.of_eq rfl) | refine And.intro ?_ ?_)⟩, by first | omega | (dsimp only; omega)⟩
          | trace_state
    · have hend := (ins_end hw hinc hib j1 j2 j3 (.inl (by omega))).symm
      repeat' first
        | (refine codeW_cond rfl ?_; first | (refine condW_dec ?_ ?_ <;> intro _ <;> try (exfalso; omega)) | refine condW_not ?_ | (refine condW_bool ?_ ?_ <;> intro _ <;> try (exfalso; omega)))
        | (refine facW_intro ?_; intro _)
        | refine Or.inl ?_
        | ((conv => whnf); first | (refine condW_dec ?_ ?_ <;> intro _ <;> try (exfalso; omega)) | refine condW_not ?_ | (refine condW_bool ?_ ?_ <;> intro _ <;> try (exfalso; omega)) | (refine nbC_t (fun _ => ?_) ?_) | (refine nbC_f ?_ (fun _ => ?_)))
        | refine And.intro (by first | omega | (simp only [Int.toNat_natCast] at *; omega) | (simp only [Nat.reduceAdd, Int.cast_ofNat_Int, true_and, and_true]; omega)  | kernel_rfl) ?_
        | refine RegW.run ?_
        | fail
      all_goals first
        | (exfalso; omega)
        | exact ⟨i + 1, by omega, ⟨[], ⟨by kernel_rfl, by kernel_rfl, by kernel_rfl, by kernel_rfl, by kernel_rfl, by kernel_rfl, by kernel_rfl⟩, (by repeat' first | (first | (intro i' j' hi' hj'; rw [hend]; exact Dle.refl _ _) | exact Dle.i (by omega)) | exact trivial | exact rfl | kernel_rfl | exact Dle.of_eq rfl | exact MLe.of_eq rfl | exact Dle.i (by omega) | exact Dle.i (by simp only [Int.toNat_natCast] at *; omega) | exact Dle.nil | exact Dle.rc Dle.nil | exact Option.some_ne_none _ | exact Or.inl rfl | exact Or.inr trivial | omega | (simp only [Int.toNat_natCast] at *; omega) | (intro _ _ _ _; exact Dle.of_eq rfl) | refine And.intro ?_ ?_)⟩, by first | omega | (dsimp only; omega)⟩
        | trace_state
  · have hlast : srt lt id π a i = srt lt id π a b := by
      by_cases e : i = b
      · rw [e]
      · have hba : b = a := i3 (by omega)
        rw [show i = a + 1 by omega, hone, hba, srt_self hw (fun k l q1 q2 q3 => by omega)]
    repeat' first
      | (refine codeW_cond rfl ?_; first | (refine condW_dec ?_ ?_ <;> intro _ <;> try (exfalso; omega)) | refine condW_not ?_ | (refine condW_bool ?_ ?_ <;> intro _ <;> try (exfalso; omega)))
      | (refine facW_intro ?_; intro _)
      | refine Or.inl ?_
      | ((conv => whnf); first | (refine condW_dec ?_ ?_ <;> intro _ <;> try (exfalso; omega)) | refine condW_not ?_ | (refine condW_bool ?_ ?_ <;> intro _ <;> try (exfalso; omega)) | (refine nbC_t (fun _ => ?_) ?_) | (refine nbC_f ?_ (fun _ => ?_)))
      | refine And.intro (by first | omega | (simp only [Int.toNat_natCast] at *; omega) | (simp only [Nat.reduceAdd, Int.cast_ofNat_Int, true_and, and_true]; omega)  | kernel_rfl) ?_
      | refine RegW.run ?_
      | fail
    all_goals first
      | (exfalso; omega)
      | exact ⟨[(2000, .row 3 n (rwI (srt lt id π a b))), (2001, .cells [.rc (.vals vl)]), (2002, .cells [.own 2000 1 0 n])], [], rfl, ⟨[], ⟨by kernel_rfl, by kernel_rfl, by kernel_rfl, by kernel_rfl, by kernel_rfl, by kernel_rfl, by kernel_rfl⟩, (by repeat' first | ((intro i' j' hi' hj'; rw [hlast]; exact Dle.refl _ _)) | exact trivial | exact rfl | kernel_rfl | exact Dle.of_eq rfl | exact MLe.of_eq rfl | exact Dle.i (by omega) | exact Dle.i (by simp only [Int.toNat_natCast] at *; omega) | exact Dle.nil | exact Dle.rc Dle.nil | exact Option.some_ne_none _ | exact Or.inl rfl | exact Or.inr trivial | omega | (simp only [Int.toNat_natCast] at *; omega) | (intro _ _ _ _; exact Dle.of_eq rfl) | refine And.intro ?_ ?_)⟩, rfl⟩
      | trace_state
end
end
end sq
end Go.Proofs.YthoemnhigboahaaGreatDoor
