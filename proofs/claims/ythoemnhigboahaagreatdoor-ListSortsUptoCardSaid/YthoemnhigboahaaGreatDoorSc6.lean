/-
  Stable sorting of a lent row of ints by slices.SortStableFunc, under a closure with two captured variables: swapRange and rotate. Stable sorting of a lent row of ints by slices.symMergeCmpFunc, under a closure with two captured variables, one on the left. (Printed by mk_sc6.py.)
-/
import Derived.Test.YthoemnhigboahaaGreatDoorSc0
import Derived.Test.YthoemnhigboahaaGreatDoorSb6
namespace Go.Proofs.YthoemnhigboahaaGreatDoor
open Go.RowKit
set_option linter.unusedVariables false
set_option linter.unusedSimpArgs false
namespace sc
open sb
section
variable (E : Env)
set_option maxRecDepth 100000
set_option maxHeartbeats 8000000 in
theorem swapRange_c (n k1 k2 k3 : Nat) (hn : n ≤ 1000000000) (kf : Nat → Nat → DD) (vl : List Vu) (g : Nat) (π : Nat → Nat) (hπ : ∀ k, k < n → π k < n) (a b c : Int) (h0 : 0 ≤ a) (hc : 0 ≤ c) (hab : a + c ≤ b) (hb : b + c ≤ n) :
    SpH (cx Tryz.prog mixed tyT_ok E) 159 [.own 2000 1 0 n, i64 a, i64 b, i64 c, clC g] (SHC n k1 k2 k3 kf vl π) (.tup []) (SHC n k1 k2 k3 kf vl (sr π a.toNat b.toNat c.toNat)) := by
  obtain ⟨a, rfl⟩ : ∃ x : Nat, a = x := ⟨a.toNat, by omega⟩
  obtain ⟨b, rfl⟩ : ∃ x : Nat, b = x := ⟨b.toNat, by omega⟩
  obtain ⟨c, rfl⟩ : ∃ x : Nat, c = x := ⟨c.toNat, by omega⟩
  rw [Int.toNat_natCast, Int.toNat_natCast, Int.toNat_natCast]
  refine SpH.body Tryz.func159 (by kernel_rfl) rfl (by kernel_rfl) (by kernel_rfl) (by kernel_rfl) ?_
  repeat' first
    | (refine codeW_cond rfl ?_; first | (refine condW_dec ?_ ?_ <;> intro _ <;> try (exfalso; omega)) | refine condW_not ?_ | (refine condW_bool ?_ ?_ <;> intro _ <;> try (exfalso; omega)))
    | (refine facW_intro ?_; intro _)
    | refine Or.inl ?_
    | ((conv => whnf); first | (refine condW_dec ?_ ?_ <;> intro _ <;> try (exfalso; omega)) | refine condW_not ?_ | (refine condW_bool ?_ ?_ <;> intro _ <;> try (exfalso; omega)) | (refine nbC_t (fun _ => ?_) ?_) | (refine nbC_f ?_ (fun _ => ?_)))
    | refine And.intro (by first | omega | (simp only [Int.toNat_natCast] at *; omega) | (simp only [Nat.reduceAdd, Int.cast_ofNat_Int, true_and, and_true]; omega)  | kernel_rfl) ?_
    | refine RegW.run ?_
    | fail
  refine ⟨Nat, fun k => [(10, i64 k)], fun k => [(2000, .row 3 n (rwI (sr π a b k)))], [2001, 2002], fun k => [], fun k => k ≤ c, fun k => c - k, ⟨0, by omega, ⟨[], ⟨by kernel_rfl, by kernel_rfl, by kernel_rfl, by kernel_rfl, by kernel_rfl, by kernel_rfl, by kernel_rfl⟩, (by repeat' first | ((intro i j hi hj; rw [sr_zero]; exact Dle.refl _ _)) | exact trivial | exact rfl | kernel_rfl | exact Dle.of_eq rfl | exact MLe.of_eq rfl | exact Dle.i (by omega) | exact Dle.i (by simp only [Int.toNat_natCast] at *; omega) | exact Dle.nil | exact Dle.rc Dle.nil | exact Option.some_ne_none _ | exact Or.inl rfl | exact Or.inr trivial | omega | (simp only [Int.toNat_natCast] at *; omega) | (intro _ _ _ _; exact Dle.of_eq rfl) | refine And.intro ?_ ?_)⟩⟩, fun k hk => ?_⟩
  have hk2 : k ≤ c := hk
  have hπk : ∀ q, q < n → sr π a b k q < n := fun q hq => by
    unfold sr
    repeat' split
    all_goals exact hπ _ (by omega)
  have hstep : k < c → sb.swp (sr π a b k) (a + k) (b + k) = sr π a b (k + 1) := fun h => sr_succ (by omega)
  have hrow : k < c → ∀ A B : Nat, ∀ x y : DD, A = a + k → B = b + k → x = i64 ((sr π a b k B : Nat)) → y = i64 ((sr π a b k A : Nat)) → ∀ i' j', i' < n → j' < 1 → Dle (cx Tryz.prog mixed tyT_ok E) (rowSet (rowSet (rwI (sr π a b k)) A 0 [x]) B 0 [y] i' j') (rwI (sr π a b (k + 1)) i' j') := fun h A B x y hA hB hx hy => by
    rw [← hstep h]
    subst hA hB
    exact rw_swap E hx hy
  repeat' first
    | (refine codeW_cond rfl ?_; first | (refine condW_dec ?_ ?_ <;> intro _ <;> try (exfalso; omega)) | refine condW_not ?_ | (refine condW_bool ?_ ?_ <;> intro _ <;> try (exfalso; omega)))
    | (refine facW_intro ?_; intro _)
    | refine Or.inl ?_
    | ((conv => whnf); first | (refine condW_dec ?_ ?_ <;> intro _ <;> try (exfalso; omega)) | refine condW_not ?_ | (refine condW_bool ?_ ?_ <;> intro _ <;> try (exfalso; omega)) | (refine nbC_t (fun _ => ?_) ?_) | (refine nbC_f ?_ (fun _ => ?_)))
    | refine And.intro (by first | omega | (simp only [Int.toNat_natCast] at *; omega) | (simp only [Nat.reduceAdd, Int.cast_ofNat_Int, true_and, and_true]; omega)  | kernel_rfl) ?_
    | refine RegW.run ?_
    | fail
  all_goals first
    | (exfalso; omega)
    | exact ⟨k + 1, by omega, ⟨[], ⟨by kernel_rfl, by kernel_rfl, by kernel_rfl, by kernel_rfl, by kernel_rfl, by kernel_rfl, by kernel_rfl⟩, (by repeat' first | (first | exact hrow (by omega) _ _ _ _ (by omega) (by omega) rfl rfl | exact Dle.i (by omega)) | exact trivial | exact rfl | kernel_rfl | exact Dle.of_eq rfl | exact MLe.of_eq rfl | exact Dle.i (by omega) | exact Dle.i (by simp only [Int.toNat_natCast] at *; omega) | exact Dle.nil | exact Dle.rc Dle.nil | exact Option.some_ne_none _ | exact Or.inl rfl | exact Or.inr trivial | omega | (simp only [Int.toNat_natCast] at *; omega) | (intro _ _ _ _; exact Dle.of_eq rfl) | refine And.intro ?_ ?_)⟩, by first | omega | (dsimp only; omega)⟩
    | exact ⟨[(2000, .row 3 n (rwI (sr π a b c))), (2001, .cells [.sl k1 k2 k3 kf]), (2002, .cells [.rc (.vals vl)])], [], rfl, ⟨[], ⟨by kernel_rfl, by kernel_rfl, by kernel_rfl, by kernel_rfl, by kernel_rfl, by kernel_rfl, by kernel_rfl⟩, (by repeat' first | ((intro i j hi hj; rw [show k = c by omega]; exact Dle.refl _ _)) | exact trivial | exact rfl | kernel_rfl | exact Dle.of_eq rfl | exact MLe.of_eq rfl | exact Dle.i (by omega) | exact Dle.i (by simp only [Int.toNat_natCast] at *; omega) | exact Dle.nil | exact Dle.rc Dle.nil | exact Option.some_ne_none _ | exact Or.inl rfl | exact Or.inr trivial | omega | (simp only [Int.toNat_natCast] at *; omega) | (intro _ _ _ _; exact Dle.of_eq rfl) | refine And.intro ?_ ?_)⟩, rfl⟩
    | trace_state
set_option maxHeartbeats 8000000 in
theorem rotate_c (n k1 k2 k3 : Nat) (hn : n ≤ 1000000000) (kf : Nat → Nat → DD) (vl : List Vu) (g : Nat) (π : Nat → Nat) (hπ : ∀ k, k < n → π k < n) (a m b : Int) (h0 : 0 ≤ a) (h1 : a < m) (h2 : m < b) (hb : b ≤ n) :
    SpH (cx Tryz.prog mixed tyT_ok E) 146 [.own 2000 1 0 n, i64 a, i64 m, i64 b, clC g] (SHC n k1 k2 k3 kf vl π) (.tup []) (SHC n k1 k2 k3 kf vl (rot π a.toNat m.toNat b.toNat)) := by
  obtain ⟨a, rfl⟩ : ∃ x : Nat, a = x := ⟨a.toNat, by omega⟩
  obtain ⟨b, rfl⟩ : ∃ x : Nat, b = x := ⟨b.toNat, by omega⟩
  obtain ⟨m, rfl⟩ : ∃ x : Nat, m = x := ⟨m.toNat, by omega⟩
  rw [Int.toNat_natCast, Int.toNat_natCast, Int.toNat_natCast]
  refine SpH.body Tryz.func146 (by kernel_rfl) rfl (by kernel_rfl) (by kernel_rfl) (by kernel_rfl) ?_
  repeat' first
    | (refine codeW_cond rfl ?_; first | (refine condW_dec ?_ ?_ <;> intro _ <;> try (exfalso; omega)) | refine condW_not ?_ | (refine condW_bool ?_ ?_ <;> intro _ <;> try (exfalso; omega)))
    | (refine facW_intro ?_; intro _)
    | refine Or.inl ?_
    | ((conv => whnf); first | (refine condW_dec ?_ ?_ <;> intro _ <;> try (exfalso; omega)) | refine condW_not ?_ | (refine condW_bool ?_ ?_ <;> intro _ <;> try (exfalso; omega)) | (refine nbC_t (fun _ => ?_) ?_) | (refine nbC_f ?_ (fun _ => ?_)))
    | refine And.intro (by first | omega | (simp only [Int.toNat_natCast] at *; omega) | (simp only [Nat.reduceAdd, Int.cast_ofNat_Int, true_and, and_true]; omega)  | kernel_rfl) ?_
    | refine RegW.run ?_
    | fail
  refine ⟨Nat × Nat × (Nat → Nat), fun k => [(10, i64 k.1), (11, i64 k.2.1)], fun k => [(2000, .row 3 n (rwI k.2.2))], [2001, 2002], fun k => [], fun k => 0 < k.1 ∧ 0 < k.2.1 ∧ k.1 ≤ m ∧ m + k.2.1 ≤ n ∧ (∀ q, q < n → k.2.2 q < n) ∧ rot k.2.2 (m - k.1) m (m + k.2.1) = rot π a m b, fun k => k.1 + k.2.1, ⟨(m - a, b - m, π), ⟨by show 0 < m - a; omega, by show 0 < b - m; omega, by show m - a ≤ m; omega, by show m + (b - m) ≤ n; omega, hπ, by show rot π (m - (m - a)) m (m + (b - m)) = rot π a m b; rw [show m - (m - a) = a by omega, show m + (b - m) = b by omega]⟩, ⟨[], ⟨by kernel_rfl, by kernel_rfl, by kernel_rfl, by kernel_rfl, by kernel_rfl, by kernel_rfl, by kernel_rfl⟩, (by repeat' first | (first | (intro i j hi hj; exact Dle.refl _ _) | exact Dle.i (show (m : Int) - a = ((m - a : Nat) : Int) by omega) | exact Dle.i (show (b : Int) - m = ((b - m : Nat) : Int) by omega)) | exact trivial | exact rfl | kernel_rfl | exact Dle.of_eq rfl | exact MLe.of_eq rfl | exact Dle.i (by omega) | exact Dle.i (by simp only [Int.toNat_natCast] at *; omega) | exact Dle.nil | exact Dle.rc Dle.nil | exact Option.some_ne_none _ | exact Or.inl rfl | exact Or.inr trivial | omega | (simp only [Int.toNat_natCast] at *; omega) | (intro _ _ _ _; exact Dle.of_eq rfl) | refine And.intro ?_ ?_)⟩⟩, fun k hk => ?_⟩
  obtain ⟨q1, q2, q3, q4, q5, q6⟩ := hk
  have hw : rot k.2.2 (m - k.1) m (m + k.2.1) = rot π a m b := q6
  have e1 : k.2.1 < k.1 → sr k.2.2 ((m : Int) - k.1).toNat ((m : Int)).toNat ((k.2.1 : Int)).toNat = sr k.2.2 (m - k.1) m k.2.1 := fun _ => by
    rw [show ((m : Int) - k.1).toNat = m - k.1 by omega, Int.toNat_natCast, Int.toNat_natCast]
  have r1 : k.2.1 < k.1 → rot (sr k.2.2 (m - k.1) m k.2.1) (m - (k.1 - k.2.1)) m (m + k.2.1) = rot π a m b := fun h => by
    rw [show m - (k.1 - k.2.1) = m - k.1 + k.2.1 by omega, rot_big h q3, hw]
  have e2 : k.1 < k.2.1 → sr k.2.2 ((m : Int) - k.1).toNat ((m : Int) + k.2.1 - k.1).toNat ((k.1 : Int)).toNat = sr k.2.2 (m - k.1) (m + k.2.1 - k.1) k.1 := fun _ => by
    rw [show ((m : Int) - k.1).toNat = m - k.1 by omega, show ((m : Int) + k.2.1 - k.1).toNat = m + k.2.1 - k.1 by omega, Int.toNat_natCast]
  have r2 : k.1 < k.2.1 → rot (sr k.2.2 (m - k.1) (m + k.2.1 - k.1) k.1) (m - k.1) m (m + (k.2.1 - k.1)) = rot π a m b := fun h => by
    rw [show m + (k.2.1 - k.1) = m + k.2.1 - k.1 by omega, rot_small h q3, hw]
  have e3 : k.1 = k.2.1 → sr k.2.2 ((m : Int) - k.1).toNat ((m : Int)).toNat ((k.1 : Int)).toNat = rot π a m b := fun h => by
    rw [show ((m : Int) - k.1).toNat = m - k.1 by omega, Int.toNat_natCast, Int.toNat_natCast, rot_even q3, ← hw, h]
  repeat' first
    | refine Or.inr ⟨_, _, _, Or.inl (swapRange_c E n k1 k2 k3 hn kf vl g k.2.2 q5 _ _ _ (by omega) (by omega) (by omega) (by omega)), by kernel_rfl, (by repeat' first | exact trivial | exact rfl | kernel_rfl | exact Dle.of_eq rfl | exact MLe.of_eq rfl | exact Dle.i (by omega) | exact Dle.i (by simp only [Int.toNat_natCast] at *; omega) | exact Dle.nil | exact Dle.rc Dle.nil | exact Option.some_ne_none _ | exact Or.inl rfl | exact Or.inr trivial | omega | (simp only [Int.toNat_natCast] at *; omega) | (intro _ _ _ _; exact Dle.of_eq rfl) | refine And.intro ?_ ?_), ?_⟩
    | (refine codeW_cond rfl ?_; first | (refine condW_dec ?_ ?_ <;> intro _ <;> try (exfalso; omega)) | refine condW_not ?_ | (refine condW_bool ?_ ?_ <;> intro _ <;> try (exfalso; omega)))
    | (refine facW_intro ?_; intro _)
    | refine Or.inl ?_
    | ((conv => whnf); first | (refine condW_dec ?_ ?_ <;> intro _ <;> try (exfalso; omega)) | refine condW_not ?_ | (refine condW_bool ?_ ?_ <;> intro _ <;> try (exfalso; omega)) | (refine nbC_t (fun _ => ?_) ?_) | (refine nbC_f ?_ (fun _ => ?_)))
    | refine And.intro (by first | omega | (simp only [Int.toNat_natCast] at *; omega) | (simp only [Nat.reduceAdd, Int.cast_ofNat_Int, true_and, and_true]; omega)  | kernel_rfl) ?_
    | refine RegW.run ?_
    | fail
  all_goals first
    | (exfalso; omega)
    | exact ⟨(k.1 - k.2.1, k.2.1, sr k.2.2 (m - k.1) m k.2.1), ⟨by show 0 < k.1 - k.2.1; omega, q2, by show k.1 - k.2.1 ≤ m; omega, q4, sr_in q5 (by omega) (by omega), r1 (by omega)⟩, ⟨[], ⟨by kernel_rfl, by kernel_rfl, by kernel_rfl, by kernel_rfl, by kernel_rfl, by kernel_rfl, by kernel_rfl⟩, (by repeat' first | (first | (intro i j hi hj; rw [e1 (by omega)]; exact Dle.refl _ _) | exact Dle.i (show (k.1 : Int) - k.2.1 = ((k.1 - k.2.1 : Nat) : Int) by omega)) | exact trivial | exact rfl | kernel_rfl | exact Dle.of_eq rfl | exact MLe.of_eq rfl | exact Dle.i (by omega) | exact Dle.i (by simp only [Int.toNat_natCast] at *; omega) | exact Dle.nil | exact Dle.rc Dle.nil | exact Option.some_ne_none _ | exact Or.inl rfl | exact Or.inr trivial | omega | (simp only [Int.toNat_natCast] at *; omega) | (intro _ _ _ _; exact Dle.of_eq rfl) | refine And.intro ?_ ?_)⟩, by first | omega | (dsimp only; omega)⟩
    | exact ⟨(k.1, k.2.1 - k.1, sr k.2.2 (m - k.1) (m + k.2.1 - k.1) k.1), ⟨q1, by show 0 < k.2.1 - k.1; omega, q3, by show m + (k.2.1 - k.1) ≤ n; omega, sr_in q5 (by omega) (by omega), r2 (by omega)⟩, ⟨[], ⟨by kernel_rfl, by kernel_rfl, by kernel_rfl, by kernel_rfl, by kernel_rfl, by kernel_rfl, by kernel_rfl⟩, (by repeat' first | (first | (intro i j hi hj; rw [e2 (by omega)]; exact Dle.refl _ _) | exact Dle.i (show (k.2.1 : Int) - k.1 = ((k.2.1 - k.1 : Nat) : Int) by omega)) | exact trivial | exact rfl | kernel_rfl | exact Dle.of_eq rfl | exact MLe.of_eq rfl | exact Dle.i (by omega) | exact Dle.i (by simp only [Int.toNat_natCast] at *; omega) | exact Dle.nil | exact Dle.rc Dle.nil | exact Option.some_ne_none _ | exact Or.inl rfl | exact Or.inr trivial | omega | (simp only [Int.toNat_natCast] at *; omega) | (intro _ _ _ _; exact Dle.of_eq rfl) | refine And.intro ?_ ?_)⟩, by first | omega | (dsimp only; omega)⟩
    | exact ⟨[(2000, .row 3 n (rwI (rot π a m b))), (2001, .cells [.sl k1 k2 k3 kf]), (2002, .cells [.rc (.vals vl)])], [], rfl, ⟨[], ⟨by kernel_rfl, by kernel_rfl, by kernel_rfl, by kernel_rfl, by kernel_rfl, by kernel_rfl, by kernel_rfl⟩, (by repeat' first | ((intro i j hi hj; rw [e3 (by omega)]; exact Dle.refl _ _)) | exact trivial | exact rfl | kernel_rfl | exact Dle.of_eq rfl | exact MLe.of_eq rfl | exact Dle.i (by omega) | exact Dle.i (by simp only [Int.toNat_natCast] at *; omega) | exact Dle.nil | exact Dle.rc Dle.nil | exact Option.some_ne_none _ | exact Or.inl rfl | exact Or.inr trivial | omega | (simp only [Int.toNat_natCast] at *; omega) | (intro _ _ _ _; exact Dle.of_eq rfl) | refine And.intro ?_ ?_)⟩, rfl⟩
    | trace_state
end
end sc
end Go.Proofs.YthoemnhigboahaaGreatDoor
namespace Go.Proofs.YthoemnhigboahaaGreatDoor
open Go.RowKit
set_option linter.unusedVariables false
set_option linter.unusedSimpArgs false
namespace sc
open sb
section
variable {lt : Nat → Nat → Bool}
section
variable (E : Env)
set_option maxRecDepth 100000
def SymAC (n u1 u2 u3 : Nat) (kf : Nat → Nat → DD) (vl : List Vu) (g : Nat) (lt : Nat → Nat → Bool) (N : Nat) : Prop := ∀ (π : Nat → Nat), (∀ k, k < n → π k < n) → ∀ a m b : Int, 0 ≤ a → a < m → m < b → b ≤ n → b - a < N → Mg lt π a.toNat m.toNat b.toNat →
    SpH (cx Tryz.prog mixed tyT_ok E) 130 [.own 2000 1 0 n, i64 a, i64 m, i64 b, clC g] (SHC n u1 u2 u3 kf vl π) (.tup []) (SHC n u1 u2 u3 kf vl (srt lt id π a.toNat b.toNat))
set_option maxHeartbeats 16000000 in
theorem symOneC (n u1 u2 u3 : Nat) (hn : n ≤ 1000000000) (kf : Nat → Nat → DD) (vl : List Vu) (g : Nat) (cf : Nat → Nat → Int) (hlv : ∀ x y, lt x y = decide (cf x y < 0)) (hw : Wk lt) (hl : CmpC E n u1 u2 u3 kf vl g cf) (π : Nat → Nat) (hπ : ∀ k, k < n → π k < n) (a m b : Nat) (ham' : a < m) (hmb' : m < b) (hb : (b : Int) ≤ n) (hM : Mg lt π a m b) (hc1 : m = a + 1) :
    SpH (cx Tryz.prog mixed tyT_ok E) 130 [.own 2000 1 0 n, i64 a, i64 m, i64 b, clC g] (SHC n u1 u2 u3 kf vl π) (.tup []) (SHC n u1 u2 u3 kf vl (srt lt id π a b)) := by
  have h0 : (0 : Int) ≤ a := by omega
  have ham : (a : Int) < m := by omega
  have hmb : (m : Int) < b := by omega
  have e26 : (m : Int) - a = 1 := by omega
  refine SpH.body Tryz.func130 (by kernel_rfl) rfl (by kernel_rfl) (by kernel_rfl) (by kernel_rfl) ?_
  repeat' first
    | (refine codeW_cond rfl ?_; first | (refine condW_dec ?_ ?_ <;> intro _ <;> try (exfalso; omega)) | refine condW_not ?_ | (refine condW_bool ?_ ?_ <;> intro _ <;> try (exfalso; omega)))
    | (refine facW_intro ?_; intro _)
    | refine Or.inl ?_
    | ((conv => whnf); first | (refine condW_dec ?_ ?_ <;> intro _ <;> try (exfalso; omega)) | refine condW_not ?_ | (refine condW_bool ?_ ?_ <;> intro _ <;> try (exfalso; omega)) | (refine nbC_t (fun _ => ?_) ?_) | (refine nbC_f ?_ (fun _ => ?_)))
    | refine And.intro (by first | omega | (simp only [Int.toNat_natCast] at *; omega) | (simp only [Nat.reduceAdd, Int.cast_ofNat_Int, true_and, and_true]; omega)  | kernel_rfl) ?_
    | refine RegW.run ?_
    | fail
  refine ⟨Nat × Nat, fun k => [(10, i64 k.1), (11, i64 k.2)], fun k => [], [2000, 2001, 2002], fun k => [], fun k => m ≤ k.1 ∧ k.1 ≤ k.2 ∧ k.2 ≤ b ∧ (∀ q, m ≤ q → q < k.1 → lt (π q) (π a) = true) ∧ ∀ q, k.2 ≤ q → q < b → lt (π q) (π a) = false, fun k => k.2 - k.1, ⟨(m, b), ⟨Nat.le_refl _, Nat.le_of_lt hmb', Nat.le_refl _, fun q q1 q2 => absurd q2 (by show ¬ q < m; omega), fun q q1 q2 => absurd q1 (by show ¬ b ≤ q; omega)⟩, ⟨[], ⟨by kernel_rfl, by kernel_rfl, by kernel_rfl, by kernel_rfl, by kernel_rfl, by kernel_rfl, by kernel_rfl⟩, (by repeat' first | exact trivial | exact rfl | kernel_rfl | exact Dle.of_eq rfl | exact MLe.of_eq rfl | exact Dle.i (by omega) | exact Dle.i (by simp only [Int.toNat_natCast] at *; omega) | exact Dle.nil | exact Dle.rc Dle.nil | exact Option.some_ne_none _ | exact Or.inl rfl | exact Or.inr trivial | omega | (simp only [Int.toNat_natCast] at *; omega) | (intro _ _ _ _; exact Dle.of_eq rfl) | refine And.intro ?_ ?_)⟩⟩, fun k hk => ?_⟩
  obtain ⟨k1, k2, k3, k4, k5⟩ := hk
  have hmid := mid_eq (k.1 : Int) (k.2 : Int) (by omega) (by omega) (by omega)
  by_cases hlt : k.1 < k.2
  · have hl2 := hl (π (0 + (IntKind.i64.wrap ((IntKind.u64.wrap ((k.1 : Int) + (k.2 : Int))).fdiv (2 ^ min (Int.toNat 1) IntKind.u64.bits))).toNat)) (π (0 + ((a : Int)).toNat)) (hπ _ (by omega)) (hπ _ (by omega))
    have hv : cf (π (0 + (IntKind.i64.wrap ((IntKind.u64.wrap ((k.1 : Int) + (k.2 : Int))).fdiv (2 ^ min (Int.toNat 1) IntKind.u64.bits))).toNat)) (π (0 + ((a : Int)).toNat)) = cf (π ((k.1 + k.2) / 2)) (π a) := by
      rw [Nat.zero_add, Nat.zero_add, Int.toNat_natCast, show (IntKind.i64.wrap ((IntKind.u64.wrap ((k.1 : Int) + (k.2 : Int))).fdiv (2 ^ min (Int.toNat 1) IntKind.u64.bits))).toNat = (k.1 + k.2) / 2 by omega]
    obtain ⟨z, hz⟩ : ∃ z, z = cf (π ((k.1 + k.2) / 2)) (π a) := ⟨_, rfl⟩
    have hzl : lt (π ((k.1 + k.2) / 2)) (π a) = decide (z < 0) := by rw [hlv, ← hz]
    rw [hv, ← hz] at hl2
    clear hz hv
    have hnF : ¬ z < 0 → ∀ q, (k.1 + k.2) / 2 ≤ q → q < b → lt (π q) (π a) = false := fun hb q q1 q2 => hM.mono_not hw (Nat.le_refl _) (Nat.le_refl _) ham' (by omega) q1 q2 (by rw [hzl]; simpa using hb)
    have hnT : z < 0 → ∀ q, m ≤ q → q < (k.1 + k.2) / 2 + 1 → lt (π q) (π a) = true := fun hb q q1 q2 => hM.mono hw (Nat.le_refl _) (Nat.le_refl _) ham' q1 (by omega : q ≤ (k.1 + k.2) / 2) (by omega) (by rw [hzl]; simpa using hb)
    clear hzl
    repeat' first
      | refine Or.inr ⟨_, _, _, Or.inl (hl2), by kernel_rfl, (by repeat' first | exact trivial | exact rfl | kernel_rfl | exact Dle.of_eq rfl | exact MLe.of_eq rfl | exact Dle.i (by omega) | exact Dle.i (by simp only [Int.toNat_natCast] at *; omega) | exact Dle.nil | exact Dle.rc Dle.nil | exact Option.some_ne_none _ | exact Or.inl rfl | exact Or.inr trivial | omega | (simp only [Int.toNat_natCast] at *; omega) | (intro _ _ _ _; exact Dle.of_eq rfl) | refine And.intro ?_ ?_), ?_⟩
      | (refine codeW_cond rfl ?_; first | (refine condW_dec ?_ ?_ <;> intro _ <;> try (exfalso; omega)) | refine condW_not ?_ | (refine condW_bool ?_ ?_ <;> intro _ <;> try (exfalso; omega)))
      | (refine facW_intro ?_; intro _)
      | refine Or.inl ?_
      | ((conv => whnf); first | (refine condW_dec ?_ ?_ <;> intro _ <;> try (exfalso; omega)) | refine condW_not ?_ | (refine condW_bool ?_ ?_ <;> intro _ <;> try (exfalso; omega)) | (refine nbC_t (fun _ => ?_) ?_) | (refine nbC_f ?_ (fun _ => ?_)))
      | refine And.intro (by first | omega | (simp only [Int.toNat_natCast] at *; omega) | (simp only [Nat.reduceAdd, Int.cast_ofNat_Int, true_and, and_true]; omega)  | kernel_rfl) ?_
      | refine RegW.run ?_
      | fail
    all_goals first
      | (exfalso; omega)
      | (have hnext := hnT (by assumption); exact ⟨((k.1 + k.2) / 2 + 1, k.2), ⟨by show m ≤ (k.1 + k.2) / 2 + 1; omega, by show (k.1 + k.2) / 2 + 1 ≤ k.2; omega, k3, hnext, k5⟩, ⟨[], ⟨by kernel_rfl, by kernel_rfl, by kernel_rfl, by kernel_rfl, by kernel_rfl, by kernel_rfl, by kernel_rfl⟩, (by repeat' first | (exact Dle.i (by show _ = (((k.1 + k.2) / 2 + 1 : Nat) : Int); omega)) | exact trivial | exact rfl | kernel_rfl | exact Dle.of_eq rfl | exact MLe.of_eq rfl | exact Dle.i (by omega) | exact Dle.i (by simp only [Int.toNat_natCast] at *; omega) | exact Dle.nil | exact Dle.rc Dle.nil | exact Option.some_ne_none _ | exact Or.inl rfl | exact Or.inr trivial | omega | (simp only [Int.toNat_natCast] at *; omega) | (intro _ _ _ _; exact Dle.of_eq rfl) | refine And.intro ?_ ?_)⟩, by first | omega | (dsimp only; omega)⟩)
      | (have hnext := hnF (by assumption); exact ⟨(k.1, (k.1 + k.2) / 2), ⟨k1, by show k.1 ≤ (k.1 + k.2) / 2; omega, by show (k.1 + k.2) / 2 ≤ b; omega, k4, hnext⟩, ⟨[], ⟨by kernel_rfl, by kernel_rfl, by kernel_rfl, by kernel_rfl, by kernel_rfl, by kernel_rfl, by kernel_rfl⟩, (by repeat' first | (exact Dle.i (by show _ = (((k.1 + k.2) / 2 : Nat) : Int); omega)) | exact trivial | exact rfl | kernel_rfl | exact Dle.of_eq rfl | exact MLe.of_eq rfl | exact Dle.i (by omega) | exact Dle.i (by simp only [Int.toNat_natCast] at *; omega) | exact Dle.nil | exact Dle.rc Dle.nil | exact Option.some_ne_none _ | exact Or.inl rfl | exact Or.inr trivial | omega | (simp only [Int.toNat_natCast] at *; omega) | (intro _ _ _ _; exact Dle.of_eq rfl) | refine And.intro ?_ ?_)⟩, by first | omega | (dsimp only; omega)⟩)
      | trace_state
  · have hend := hM.one hw hc1 k1 (by omega) k4 (fun q q1 q2 => k5 q (by omega) q2)
    repeat' first
      | (refine codeW_cond rfl ?_; first | (refine condW_dec ?_ ?_ <;> intro _ <;> try (exfalso; omega)) | refine condW_not ?_ | (refine condW_bool ?_ ?_ <;> intro _ <;> try (exfalso; omega)))
      | (refine facW_intro ?_; intro _)
      | refine Or.inl ?_
      | ((conv => whnf); first | (refine condW_dec ?_ ?_ <;> intro _ <;> try (exfalso; omega)) | refine condW_not ?_ | (refine condW_bool ?_ ?_ <;> intro _ <;> try (exfalso; omega)) | (refine nbC_t (fun _ => ?_) ?_) | (refine nbC_f ?_ (fun _ => ?_)))
      | refine And.intro (by first | omega | (simp only [Int.toNat_natCast] at *; omega) | (simp only [Nat.reduceAdd, Int.cast_ofNat_Int, true_and, and_true]; omega)  | kernel_rfl) ?_
      | refine RegW.run ?_
      | fail
    refine ⟨Nat, fun j => [(13, i64 j)], fun j => [(2000, .row 3 n (rwI (rot π a (a + 1) (j + 1))))], [2001, 2002], fun j => [], fun j => a ≤ j ∧ j + 1 ≤ k.1, fun j => k.1 - j, ⟨a, ⟨Nat.le_refl _, by omega⟩, ⟨[], ⟨by kernel_rfl, by kernel_rfl, by kernel_rfl, by kernel_rfl, by kernel_rfl, by kernel_rfl, by kernel_rfl⟩, (by repeat' first | ((intro i' j' hi' hj'; rw [rot_none2]; exact Dle.refl _ _)) | exact trivial | exact rfl | kernel_rfl | exact Dle.of_eq rfl | exact MLe.of_eq rfl | exact Dle.i (by omega) | exact Dle.i (by simp only [Int.toNat_natCast] at *; omega) | exact Dle.nil | exact Dle.rc Dle.nil | exact Option.some_ne_none _ | exact Or.inl rfl | exact Or.inr trivial | omega | (simp only [Int.toNat_natCast] at *; omega) | (intro _ _ _ _; exact Dle.of_eq rfl) | refine And.intro ?_ ?_)⟩⟩, fun j hj => ?_⟩
    obtain ⟨j1, j2⟩ := hj
    have hin2 := rot_in (a := a) (m := a + 1) (b := j + 1) hπ (by omega) (by omega) (by omega)
    by_cases hj3 : j + 1 < k.1
    · have hsw : sb.swp (rot π a (a + 1) (j + 1)) j (j + 1) = rot π a (a + 1) (j + 1 + 1) := rot_up (p := π) (a := a) (k := j + 1) (by omega)
      have hrow : ∀ A B : Nat, ∀ x y : DD, A = j → B = j + 1 → x = i64 (((rot π a (a + 1) (j + 1)) B : Nat)) → y = i64 (((rot π a (a + 1) (j + 1)) A : Nat)) → ∀ i' j', i' < n → j' < 1 → Dle (cx Tryz.prog mixed tyT_ok E) (rowSet (rowSet (rwI (rot π a (a + 1) (j + 1))) A 0 [x]) B 0 [y] i' j') (rwI (rot π a (a + 1) (j + 1 + 1)) i' j') := fun A B x y hA hB hx hy => by
        rw [← hsw]
        subst hA hB
        exact rw_swap E hx hy
      repeat' first
        | (refine codeW_cond rfl ?_; first | (refine condW_dec ?_ ?_ <;> intro _ <;> try (exfalso; omega)) | refine condW_not ?_ | (refine condW_bool ?_ ?_ <;> intro _ <;> try (exfalso; omega)))
        | (refine facW_intro ?_; intro _)
        | refine Or.inl ?_
        | ((conv => whnf); first | (refine condW_dec ?_ ?_ <;> intro _ <;> try (exfalso; omega)) | refine condW_not ?_ | (refine condW_bool ?_ ?_ <;> intro _ <;> try (exfalso; omega)) | (refine nbC_t (fun _ => ?_) ?_) | (refine nbC_f ?_ (fun _ => ?_)))
        | refine And.intro (by first | omega | (simp only [Int.toNat_natCast] at *; omega) | (simp only [Nat.reduceAdd, Int.cast_ofNat_Int, true_and, and_true]; omega)  | kernel_rfl) ?_
        | refine RegW.run ?_
        | fail
      all_goals first
        | (exfalso; omega)
        | exact ⟨j + 1, by omega, ⟨[], ⟨by kernel_rfl, by kernel_rfl, by kernel_rfl, by kernel_rfl, by kernel_rfl, by kernel_rfl, by kernel_rfl⟩, (by repeat' first | (first | exact hrow _ _ _ _ (by omega) (by omega) rfl rfl | exact Dle.i (by omega)) | exact trivial | exact rfl | kernel_rfl | exact Dle.of_eq rfl | exact MLe.of_eq rfl | exact Dle.i (by omega) | exact Dle.i (by simp only [Int.toNat_natCast] at *; omega) | exact Dle.nil | exact Dle.rc Dle.nil | exact Option.some_ne_none _ | exact Or.inl rfl | exact Or.inr trivial | omega | (simp only [Int.toNat_natCast] at *; omega) | (intro _ _ _ _; exact Dle.of_eq rfl) | refine And.intro ?_ ?_)⟩, by first | omega | (dsimp only; omega)⟩
        | trace_state
    · have hje : j + 1 = k.1 := by omega
      repeat' first
        | (refine codeW_cond rfl ?_; first | (refine condW_dec ?_ ?_ <;> intro _ <;> try (exfalso; omega)) | refine condW_not ?_ | (refine condW_bool ?_ ?_ <;> intro _ <;> try (exfalso; omega)))
        | (refine facW_intro ?_; intro _)
        | refine Or.inl ?_
        | ((conv => whnf); first | (refine condW_dec ?_ ?_ <;> intro _ <;> try (exfalso; omega)) | refine condW_not ?_ | (refine condW_bool ?_ ?_ <;> intro _ <;> try (exfalso; omega)) | (refine nbC_t (fun _ => ?_) ?_) | (refine nbC_f ?_ (fun _ => ?_)))
        | refine And.intro (by first | omega | (simp only [Int.toNat_natCast] at *; omega) | (simp only [Nat.reduceAdd, Int.cast_ofNat_Int, true_and, and_true]; omega)  | kernel_rfl) ?_
        | refine RegW.run ?_
        | fail
      all_goals first
        | (exfalso; omega)
        | exact ⟨[(2000, .row 3 n (rwI (srt lt id π a b))), (2001, .cells [.sl u1 u2 u3 kf]), (2002, .cells [.rc (.vals vl)])], [], rfl, ⟨[], ⟨by kernel_rfl, by kernel_rfl, by kernel_rfl, by kernel_rfl, by kernel_rfl, by kernel_rfl, by kernel_rfl⟩, (by repeat' first | ((intro i' j' hi' hj'; rw [hend, hje]; exact Dle.refl _ _)) | exact trivial | exact rfl | kernel_rfl | exact Dle.of_eq rfl | exact MLe.of_eq rfl | exact Dle.i (by omega) | exact Dle.i (by simp only [Int.toNat_natCast] at *; omega) | exact Dle.nil | exact Dle.rc Dle.nil | exact Option.some_ne_none _ | exact Or.inl rfl | exact Or.inr trivial | omega | (simp only [Int.toNat_natCast] at *; omega) | (intro _ _ _ _; exact Dle.of_eq rfl) | refine And.intro ?_ ?_)⟩, rfl⟩
        | trace_state
end
end
end sc
end Go.Proofs.YthoemnhigboahaaGreatDoor
