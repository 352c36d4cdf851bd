/-
  Stable sorting of a lent row of ints by slices.SortStableFunc, under a closure with two captured variables: insertionSort.
-/
import Derived.Test.YthoemnhigboahaaGreatDoorSbC
namespace Go.Proofs.YthoemnhigboahaaGreatDoor
open Go.RowKit
set_option linter.unusedVariables false
set_option linter.unusedSimpArgs false
namespace sc
open sb
section
variable {lt : Nat → Nat → Bool}
section
variable (E : Env)
abbrev SHC (n k1 k2 k3 : Nat) (kf : Nat → Nat → DD) (vl : List Vu) (π : Nat → Nat) : List (Nat × Ob RC) := [(2000, .row 3 n (rwI π)), (2001, .cells [.sl k1 k2 k3 kf]), (2002, .cells [.rc (.vals vl)])]
abbrev clC (g : Nat) : DD := .fn g [.ptr 2001 0, .ptr 2002 0]
def CmpC (n k1 k2 k3 : Nat) (kf : Nat → Nat → DD) (vl : List Vu) (g : Nat) (cf : Nat → Nat → Int) : Prop :=
  ∀ x y : Nat, x < n → y < n → SpH (cx Tryz.prog mixed tyT_ok E) g [i64 x, i64 y, .ptr 2001 0, .ptr 2002 0] [(2001, .cells [.sl k1 k2 k3 kf]), (2002, .cells [.rc (.vals vl)])] (i64 (cf x y)) [(2001, .cells [.sl k1 k2 k3 kf]), (2002, .cells [.rc (.vals vl)])]
theorem rw_swap {n a b : Nat} {π : Nat → Nat} {x y : DD} (hx : x = i64 (π b)) (hy : y = i64 (π a)) : ∀ i j, i < n → j < 1 → Dle (cx Tryz.prog mixed tyT_ok E) (rowSet (rowSet (rwI π) a 0 [x]) b 0 [y] i j) (rwI (sb.swp π a b) i j) := fun i j _ hj => by
  obtain rfl : j = 0 := by omega
  subst hx hy
  unfold rowSet rwI sb.swp
  by_cases h1 : i = b
  · subst h1
    rw [if_pos ⟨rfl, by omega, by simp⟩]
    by_cases h2 : i = a
    · subst h2
      rw [if_pos rfl]
      exact Dle.refl _ _
    · rw [if_neg h2, if_pos rfl]
      exact Dle.refl _ _
  · rw [if_neg (fun h => h1 h.1)]
    by_cases h2 : i = a
    · subst h2
      rw [if_pos ⟨rfl, by omega, by simp⟩, if_pos rfl]
      exact Dle.refl _ _
    · rw [if_neg (fun h => h2 h.1), if_neg h2, if_neg h1]
      exact Dle.refl _ _
set_option maxRecDepth 100000
set_option maxHeartbeats 8000000 in
theorem insSort_c (n k1 k2 k3 : Nat) (hn : n ≤ 1000000000) (kf : Nat → Nat → DD) (vl : List Vu) (g : Nat) (cf : Nat → Nat → Int) (hw : Wk (fun x y => decide (cf x y < 0))) (hl : CmpC E n k1 k2 k3 kf vl g cf) (π : Nat → Nat) (hπ : ∀ k, k < n → π k < n) (a b : Int) (h0 : 0 ≤ a) (hab : a ≤ b) (hb : b ≤ n) (hinc : ∀ k l, a.toNat ≤ k → k < l → l < b.toNat → π k < π l) :
    SpH (cx Tryz.prog mixed tyT_ok E) 129 [.own 2000 1 0 n, i64 a, i64 b, clC g] (SHC n k1 k2 k3 kf vl π) (.tup []) (SHC n k1 k2 k3 kf vl (srt (fun x y => decide (cf x y < 0)) id π a.toNat b.toNat)) := by
  obtain ⟨lt, hlt⟩ : ∃ lt : Nat → Nat → Bool, lt = (fun x y => decide (cf x y < 0)) := ⟨_, rfl⟩
  rw [← hlt] at hw ⊢
  have hlv : ∀ x y, lt x y = decide (cf x y < 0) := fun x y => by rw [hlt]
  clear hlt
  obtain ⟨a, rfl⟩ : ∃ x : Nat, a = x := ⟨a.toNat, by omega⟩
  obtain ⟨b, rfl⟩ : ∃ x : Nat, b = x := ⟨b.toNat, by omega⟩
  rw [Int.toNat_natCast, Int.toNat_natCast] at *
  have hone : srt lt id π a (a + 1) = π := srt_self hw (fun k l q1 q2 q3 => by omega)
  refine SpH.body Tryz.func129 (by kernel_rfl) rfl (by kernel_rfl) (by kernel_rfl) (by kernel_rfl) ?_
  repeat' first
    | (refine codeW_cond rfl ?_; first | (refine condW_dec ?_ ?_ <;> intro _ <;> try (exfalso; omega)) | refine condW_not ?_ | (refine condW_bool ?_ ?_ <;> intro _ <;> try (exfalso; omega)))
    | (refine facW_intro ?_; intro _)
    | refine Or.inl ?_
    | ((conv => whnf); first | (refine condW_dec ?_ ?_ <;> intro _ <;> try (exfalso; omega)) | refine condW_not ?_ | (refine condW_bool ?_ ?_ <;> intro _ <;> try (exfalso; omega)) | (refine nbC_t (fun _ => ?_) ?_) | (refine nbC_f ?_ (fun _ => ?_)))
    | refine And.intro (by first | omega | (simp only [Int.toNat_natCast] at *; omega) | (simp only [Nat.reduceAdd, Int.cast_ofNat_Int, true_and, and_true]; omega)  | kernel_rfl) ?_
    | refine RegW.run ?_
    | fail
  refine ⟨Nat, fun i => [(8, i64 i)], fun i => [(2000, .row 3 n (rwI (srt lt id π a i)))], [2001, 2002], fun i => [], fun i => a < i ∧ i ≤ b + 1 ∧ (i = b + 1 → b = a), fun i => b + 1 - i, ⟨a + 1, by omega, ⟨[], ⟨by kernel_rfl, by kernel_rfl, by kernel_rfl, by kernel_rfl, by kernel_rfl, by kernel_rfl, by kernel_rfl⟩, (by repeat' first | (first | (intro i' j' hi' hj'; rw [hone]; exact Dle.refl _ _) | exact Dle.i (by omega)) | exact trivial | exact rfl | kernel_rfl | exact Dle.of_eq rfl | exact MLe.of_eq rfl | exact Dle.i (by omega) | exact Dle.i (by simp only [Int.toNat_natCast] at *; omega) | exact Dle.nil | exact Dle.rc Dle.nil | exact Option.some_ne_none _ | exact Or.inl rfl | exact Or.inr trivial | omega | (simp only [Int.toNat_natCast] at *; omega) | (intro _ _ _ _; exact Dle.of_eq rfl) | refine And.intro ?_ ?_)⟩⟩, fun i hi => ?_⟩
  obtain ⟨i1, i2, i3⟩ := hi
  by_cases hib : i < b
  · have hin : ∀ k, k < n → srt lt id π a i k < n := srt_in hw (inc_ne fun k l q1 q2 q3 => hinc k l q1 q2 (by omega)) hπ (by omega)
    repeat' first
      | (refine codeW_cond rfl ?_; first | (refine condW_dec ?_ ?_ <;> intro _ <;> try (exfalso; omega)) | refine condW_not ?_ | (refine condW_bool ?_ ?_ <;> intro _ <;> try (exfalso; omega)))
      | (refine facW_intro ?_; intro _)
      | refine Or.inl ?_
      | ((conv => whnf); first | (refine condW_dec ?_ ?_ <;> intro _ <;> try (exfalso; omega)) | refine condW_not ?_ | (refine condW_bool ?_ ?_ <;> intro _ <;> try (exfalso; omega)) | (refine nbC_t (fun _ => ?_) ?_) | (refine nbC_f ?_ (fun _ => ?_)))
      | refine And.intro (by first | omega | (simp only [Int.toNat_natCast] at *; omega) | (simp only [Nat.reduceAdd, Int.cast_ofNat_Int, true_and, and_true]; omega)  | kernel_rfl) ?_
      | refine RegW.run ?_
      | fail
    refine ⟨Nat, fun j => [(9, i64 j)], fun j => [(2000, .row 3 n (rwI (rot (srt lt id π a i) j i (i + 1))))], [2001, 2002], fun j => [], fun j => a ≤ j ∧ j ≤ i ∧ ∀ l, j ≤ l → l < i → lt (srt lt id π a i i) (srt lt id π a i l) = true, fun j => j, ⟨i, ⟨by omega, by omega, fun l l1 l2 => by omega⟩, ⟨[], ⟨by kernel_rfl, by kernel_rfl, by kernel_rfl, by kernel_rfl, by kernel_rfl, by kernel_rfl, by kernel_rfl⟩, (by repeat' first | ((intro i' j' hi' hj'; rw [rot_none1]; exact Dle.refl _ _)) | exact trivial | exact rfl | kernel_rfl | exact Dle.of_eq rfl | exact MLe.of_eq rfl | exact Dle.i (by omega) | exact Dle.i (by simp only [Int.toNat_natCast] at *; omega) | exact Dle.nil | exact Dle.rc Dle.nil | exact Option.some_ne_none _ | exact Or.inl rfl | exact Or.inr trivial | omega | (simp only [Int.toNat_natCast] at *; omega) | (intro _ _ _ _; exact Dle.of_eq rfl) | refine And.intro ?_ ?_)⟩⟩, fun j hj => ?_⟩
    obtain ⟨j1, j2, j3⟩ := hj
    have hin2 := rot_in (a := j) (m := i) (b := i + 1) hin j2 (by omega) (by omega)
    by_cases haj : a < j
    · have ea : rot (srt lt id π a i) j i (i + 1) (0 + ((j : Int)).toNat) = srt lt id π a i i := by rw [Nat.zero_add, Int.toNat_natCast, rot_at1 j2]
      have eb : rot (srt lt id π a i) j i (i + 1) (0 + ((j : Int) - 1).toNat) = srt lt id π a i (j - 1) := by rw [Nat.zero_add, show ((j : Int) - 1).toNat = j - 1 by omega, rot_at2 (by omega)]
      have hl2 := hl (rot (srt lt id π a i) j i (i + 1) (0 + ((j : Int)).toNat)) (rot (srt lt id π a i) j i (i + 1) (0 + ((j : Int) - 1).toNat)) (hin2 _ (by omega)) (hin2 _ (by omega))
      rw [show cf (rot (srt lt id π a i) j i (i + 1) (0 + ((j : Int)).toNat)) (rot (srt lt id π a i) j i (i + 1) (0 + ((j : Int) - 1).toNat)) = cf (srt lt id π a i i) (srt lt id π a i (j - 1)) by rw [ea, eb]] at hl2
      have hend : ¬ cf (srt lt id π a i i) (srt lt id π a i (j - 1)) < 0 → rot (srt lt id π a i) j i (i + 1) = srt lt id π a (i + 1) := fun hc => (ins_end hw hinc hib j1 j2 j3 (.inr (by rw [hlv]; simpa using hc))).symm
      have hj4 : cf (srt lt id π a i i) (srt lt id π a i (j - 1)) < 0 → ∀ l, j - 1 ≤ l → l < i → lt (srt lt id π a i i) (srt lt id π a i l) = true := fun hc l l1 l2 => by
        by_cases e : l = j - 1
        · rw [e, hlv]; exact decide_eq_true hc
        · exact j3 l (by omega) l2
      have hdn : sb.swp (rot (srt lt id π a i) j i (i + 1)) j (j - 1) = rot (srt lt id π a i) (j - 1) i (i + 1) := by rw [rot_down j2 (by omega)]
      have hrow : ∀ A B : Nat, ∀ x y : DD, A = j → B = j - 1 → x = i64 ((rot (srt lt id π a i) j i (i + 1) B : Nat)) → y = i64 ((rot (srt lt id π a i) j i (i + 1) A : Nat)) → ∀ i' j', i' < n → j' < 1 → Dle (cx Tryz.prog mixed tyT_ok E) (rowSet (rowSet (rwI (rot (srt lt id π a i) j i (i + 1))) A 0 [x]) B 0 [y] i' j') (rwI (rot (srt lt id π a i) (j - 1) i (i + 1)) i' j') := fun A B x y hA hB hx hy => by
        rw [← hdn]
        subst hA hB
        exact rw_swap E hx hy
      repeat' first
        | refine Or.inr ⟨_, _, _, Or.inl (hl2), by kernel_rfl, (by repeat' first | exact trivial | exact rfl | kernel_rfl | exact Dle.of_eq rfl | exact MLe.of_eq rfl | exact Dle.i (by omega) | exact Dle.i (by simp only [Int.toNat_natCast] at *; omega) | exact Dle.nil | exact Dle.rc Dle.nil | exact Option.some_ne_none _ | exact Or.inl rfl | exact Or.inr trivial | omega | (simp only [Int.toNat_natCast] at *; omega) | (intro _ _ _ _; exact Dle.of_eq rfl) | refine And.intro ?_ ?_), ?_⟩
        | (refine codeW_cond rfl ?_; first | (refine condW_dec ?_ ?_ <;> intro _ <;> try (exfalso; omega)) | refine condW_not ?_ | (refine condW_bool ?_ ?_ <;> intro _ <;> try (exfalso; omega)))
        | (refine facW_intro ?_; intro _)
        | refine Or.inl ?_
        | ((conv => whnf); first | (refine condW_dec ?_ ?_ <;> intro _ <;> try (exfalso; omega)) | refine condW_not ?_ | (refine condW_bool ?_ ?_ <;> intro _ <;> try (exfalso; omega)) | (refine nbC_t (fun _ => ?_) ?_) | (refine nbC_f ?_ (fun _ => ?_)))
        | refine And.intro (by first | omega | (simp only [Int.toNat_natCast] at *; omega) | (simp only [Nat.reduceAdd, Int.cast_ofNat_Int, true_and, and_true]; omega)  | kernel_rfl) ?_
        | refine RegW.run ?_
        | fail
      all_goals first
        | (exfalso; omega)
        | exact ⟨j - 1, ⟨by omega, by omega, hj4 ‹_›⟩, ⟨[], ⟨by kernel_rfl, by kernel_rfl, by kernel_rfl, by kernel_rfl, by kernel_rfl, by kernel_rfl, by kernel_rfl⟩, (by repeat' first | (first | exact hrow _ _ _ _ (by omega) (by omega) rfl rfl | exact Dle.i (by omega)) | exact trivial | exact rfl | kernel_rfl | exact Dle.of_eq rfl | exact MLe.of_eq rfl | exact Dle.i (by omega) | exact Dle.i (by simp only [Int.toNat_natCast] at *; omega) | exact Dle.nil | exact Dle.rc Dle.nil | exact Option.some_ne_none _ | exact Or.inl rfl | exact Or.inr trivial | omega | (simp only [Int.toNat_natCast] at *; omega) | (intro _ _ _ _; exact Dle.of_eq rfl) | refine And.intro ?_ ?_)⟩, by first | omega | (dsimp only; omega)⟩
        | exact ⟨i + 1, by omega, ⟨[], ⟨by kernel_rfl, by kernel_rfl, by kernel_rfl, by kernel_rfl, by kernel_rfl, by kernel_rfl, by kernel_rfl⟩, (by repeat' first | (first | (intro i' j' hi' hj'; rw [hend ‹_›]; exact Dle.refl _ _) | exact Dle.i (by omega)) | exact trivial | exact rfl | kernel_rfl | exact Dle.of_eq rfl | exact MLe.of_eq rfl | exact Dle.i (by omega) | exact Dle.i (by simp only [Int.toNat_natCast] at *; omega) | exact Dle.nil | exact Dle.rc Dle.nil | exact Option.some_ne_none _ | exact Or.inl rfl | exact Or.inr trivial | omega | (simp only [Int.toNat_natCast] at *; omega) | (intro _ _ _ _; exact Dle.of_eq rfl) | refine And.intro ?_ ?_)⟩, by first | omega | (dsimp only; omega)⟩
        | trace_state
    · have hend := (ins_end hw hinc hib j1 j2 j3 (.inl (by omega))).symm
      repeat' first
        | (refine codeW_cond rfl ?_; first | (refine condW_dec ?_ ?_ <;> intro _ <;> try (exfalso; omega)) | refine condW_not ?_ | (refine condW_bool ?_ ?_ <;> intro _ <;> try (exfalso; omega)))
        | (refine facW_intro ?_; intro _)
        | refine Or.inl ?_
        | ((conv => whnf); first | (refine condW_dec ?_ ?_ <;> intro _ <;> try (exfalso; omega)) | refine condW_not ?_ | (refine condW_bool ?_ ?_ <;> intro _ <;> try (exfalso; omega)) | (refine nbC_t (fun _ => ?_) ?_) | (refine nbC_f ?_ (fun _ => ?_)))
        | refine And.intro (by first | omega | (simp only [Int.toNat_natCast] at *; omega) | (simp only [Nat.reduceAdd, Int.cast_ofNat_Int, true_and, and_true]; omega)  | kernel_rfl) ?_
        | refine RegW.run ?_
        | fail
      all_goals first
        | (exfalso; omega)
        | exact ⟨i + 1, by omega, ⟨[], ⟨by kernel_rfl, by kernel_rfl, by kernel_rfl, by kernel_rfl, by kernel_rfl, by kernel_rfl, by kernel_rfl⟩, (by repeat' first | (first | (intro i' j' hi' hj'; rw [hend]; exact Dle.refl _ _) | exact Dle.i (by omega)) | exact trivial | exact rfl | kernel_rfl | exact Dle.of_eq rfl | exact MLe.of_eq rfl | exact Dle.i (by omega) | exact Dle.i (by simp only [Int.toNat_natCast] at *; omega) | exact Dle.nil | exact Dle.rc Dle.nil | exact Option.some_ne_none _ | exact Or.inl rfl | exact Or.inr trivial | omega | (simp only [Int.toNat_natCast] at *; omega) | (intro _ _ _ _; exact Dle.of_eq rfl) | refine And.intro ?_ ?_)⟩, by first | omega | (dsimp only; omega)⟩
        | trace_state
  · have hlast : srt lt id π a i = srt lt id π a b := by
      by_cases e : i = b
      · rw [e]
      · have hba : b = a := i3 (by omega)
        rw [show i = a + 1 by omega, hone, hba, srt_self hw (fun k l q1 q2 q3 => by omega)]
    repeat' first
      | (refine codeW_cond rfl ?_; first | (refine condW_dec ?_ ?_ <;> intro _ <;> try (exfalso; omega)) | refine condW_not ?_ | (refine condW_bool ?_ ?_ <;> intro _ <;> try (exfalso; omega)))
      | (refine facW_intro ?_; intro _)
      | refine Or.inl ?_
      | ((conv => whnf); first | (refine condW_dec ?_ ?_ <;> intro _ <;> try (exfalso; omega)) | refine condW_not ?_ | (refine condW_bool ?_ ?_ <;> intro _ <;> try (exfalso; omega)) | (refine nbC_t (fun _ => ?_) ?_) | (refine nbC_f ?_ (fun _ => ?_)))
      | refine And.intro (by first | omega | (simp only [Int.toNat_natCast] at *; omega) | (simp only [Nat.reduceAdd, Int.cast_ofNat_Int, true_and, and_true]; omega)  | kernel_rfl) ?_
      | refine RegW.run ?_
      | fail
    all_goals first
      | (exfalso; omega)
      | exact ⟨[(2000, .row 3 n (rwI (srt lt id π a b))), (2001, .cells [.sl k1 k2 k3 kf]), (2002, .cells [.rc (.vals vl)])], [], rfl, ⟨[], ⟨by kernel_rfl, by kernel_rfl, by kernel_rfl, by kernel_rfl, by kernel_rfl, by kernel_rfl, by kernel_rfl⟩, (by repeat' first | ((intro i' j' hi' hj'; rw [hlast]; exact Dle.refl _ _)) | exact trivial | exact rfl | kernel_rfl | exact Dle.of_eq rfl | exact MLe.of_eq rfl | exact Dle.i (by omega) | exact Dle.i (by simp only [Int.toNat_natCast] at *; omega) | exact Dle.nil | exact Dle.rc Dle.nil | exact Option.some_ne_none _ | exact Or.inl rfl | exact Or.inr trivial | omega | (simp only [Int.toNat_natCast] at *; omega) | (intro _ _ _ _; exact Dle.of_eq rfl) | refine And.intro ?_ ?_)⟩, rfl⟩
      | trace_state
end
end
end sc
end Go.Proofs.YthoemnhigboahaaGreatDoor
