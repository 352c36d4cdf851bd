/-
  Stable sorting of a lent row of ints under a closure with two captured variables: symMerge, the cut. (Printed by mk_sr.py.)
-/
import Derived.Test.YthoemnhigboahaaGreatDoorSr6
namespace Go.Proofs.YthoemnhigboahaaGreatDoor
open Go.RowKit
set_option linter.unusedVariables false
set_option linter.unusedSimpArgs false
namespace sq
open sb
section
variable {lt : Nat → Nat → Bool}
section
variable (E : Env)
set_option maxRecDepth 100000
set_option maxHeartbeats 16000000 in
theorem symCutL (n : Nat) (hn : n ≤ 1000000000) (vl : List Vu) (g : Nat) (hw : Wk lt) (hl : LessR E n vl g lt) (π : Nat → Nat) (hπ : ∀ k, k < n → π k < n) (a m b : Nat) (ham' : a < m) (hmb' : m < b) (hb : (b : Int) ≤ n) (hM : Mg lt π a m b) (hc1 : ¬ m = a + 1) (hc2 : ¬ b = m + 1) (N : Nat) (hN : (b : Int) - a < (N + 1 : Nat)) (ih : SymR E n vl g lt N) (mid : Nat) (hmd : mid = (a + b) / 2) (hmm : mid < m) :
    SpH (cx Tryz.prog mixed tyT_ok E) 124 [lsR g n, i64 a, i64 m, i64 b] (SHR n vl π) (.tup []) (SHR n vl (srt lt id π a b)) := by
  have h0 : (0 : Int) ≤ a := by omega
  have ham : (a : Int) < m := by omega
  have hmb : (m : Int) < b := by omega
  have hmid := mid_eq (a : Int) (b : Int) (by omega) (by omega) (by omega)
  have hmi : (IntKind.i64.wrap ((IntKind.u64.wrap ((a : Int) + (b : Int))).fdiv (2 ^ min (Int.toNat 1) IntKind.u64.bits))).toNat = mid := by omega
  refine SpH.body Tryz.func124 (by kernel_rfl) rfl (by kernel_rfl) (by kernel_rfl) (by kernel_rfl) ?_
  repeat' first
    | (refine codeW_cond rfl ?_; first | (refine condW_dec ?_ ?_ <;> intro _ <;> try (exfalso; omega)) | refine condW_not ?_ | (refine condW_bool ?_ ?_ <;> intro _ <;> try (exfalso; omega)))
    | (refine facW_intro ?_; intro _)
    | refine Or.inl ?_
    | ((conv => whnf); first | (refine condW_dec ?_ ?_ <;> intro _ <;> try (exfalso; omega)) | refine condW_not ?_ | (refine condW_bool ?_ ?_ <;> intro _ <;> try (exfalso; omega)) | (refine nbC_t (fun _ => ?_) ?_) | (refine nbC_f ?_ (fun _ => ?_)))
    | refine And.intro (by first | omega | (simp only [Int.toNat_natCast] at *; omega) | (simp only [Nat.reduceAdd, Int.cast_ofNat_Int, true_and, and_true]; omega)  | kernel_rfl) ?_
    | refine RegW.run ?_
    | fail
  refine ⟨Nat × Nat, fun k => [(18, i64 k.1), (19, i64 k.2)], fun k => [], [4, 2000, 2001, 2002], fun k => [], fun k => (mid + m - b) ≤ k.1 ∧ k.1 ≤ k.2 ∧ k.2 ≤ mid ∧ (∀ c, (mid + m - b) ≤ c → c < k.1 → lt (π (mid + m - 1 - c)) (π c) = false) ∧ ∀ c, k.2 ≤ c → c < mid → lt (π (mid + m - 1 - c)) (π c) = true, fun k => k.2 - k.1, ⟨((mid + m - b), mid), ⟨Nat.le_refl _, by show (mid + m - b) ≤ mid; omega, Nat.le_refl _, fun q q1 q2 => absurd q2 (by show ¬ q < (mid + m - b); omega), fun q q1 q2 => absurd q1 (by show ¬ mid ≤ q; omega)⟩, ⟨[], ⟨by kernel_rfl, by kernel_rfl, by kernel_rfl, by kernel_rfl, by kernel_rfl, by kernel_rfl, by kernel_rfl⟩, (by repeat' first | (first | exact Dle.i (by show _ = (((mid + m - b) : Nat) : Int); omega) | exact Dle.i (by show _ = ((mid : Nat) : Int); omega)) | exact trivial | exact rfl | kernel_rfl | exact Dle.of_eq rfl | exact MLe.of_eq rfl | exact Dle.i (by omega) | exact Dle.i (by simp only [Int.toNat_natCast] at *; omega) | exact Dle.nil | exact Dle.rc Dle.nil | exact Option.some_ne_none _ | exact Or.inl rfl | exact Or.inr trivial | omega | (simp only [Int.toNat_natCast] at *; omega) | (intro _ _ _ _; exact Dle.of_eq rfl) | refine And.intro ?_ ?_)⟩⟩, fun k hk => ?_⟩
  obtain ⟨k1, k2, k3, k4, k5⟩ := hk
  have hmc := mid_eq (k.1 : Int) (k.2 : Int) (by omega) (by omega) (by omega)
  by_cases hlt : k.1 < k.2
  · have hl2 := hl π hπ ((IntKind.i64.wrap ((IntKind.u64.wrap ((a : Int) + (b : Int))).fdiv (2 ^ min (Int.toNat 1) IntKind.u64.bits))) + m - 1 - (IntKind.i64.wrap ((IntKind.u64.wrap ((k.1 : Int) + (k.2 : Int))).fdiv (2 ^ min (Int.toNat 1) IntKind.u64.bits)))) (IntKind.i64.wrap ((IntKind.u64.wrap ((k.1 : Int) + (k.2 : Int))).fdiv (2 ^ min (Int.toNat 1) IntKind.u64.bits))) (by omega) (by omega) (by omega) (by omega)
    have hv : lt (π ((IntKind.i64.wrap ((IntKind.u64.wrap ((a : Int) + (b : Int))).fdiv (2 ^ min (Int.toNat 1) IntKind.u64.bits))) + m - 1 - (IntKind.i64.wrap ((IntKind.u64.wrap ((k.1 : Int) + (k.2 : Int))).fdiv (2 ^ min (Int.toNat 1) IntKind.u64.bits)))).toNat) (π (IntKind.i64.wrap ((IntKind.u64.wrap ((k.1 : Int) + (k.2 : Int))).fdiv (2 ^ min (Int.toNat 1) IntKind.u64.bits))).toNat) = lt (π (mid + m - 1 - (k.1 + k.2) / 2)) (π ((k.1 + k.2) / 2)) := by
      rw [show ((IntKind.i64.wrap ((IntKind.u64.wrap ((a : Int) + (b : Int))).fdiv (2 ^ min (Int.toNat 1) IntKind.u64.bits))) + m - 1 - (IntKind.i64.wrap ((IntKind.u64.wrap ((k.1 : Int) + (k.2 : Int))).fdiv (2 ^ min (Int.toNat 1) IntKind.u64.bits)))).toNat = mid + m - 1 - (k.1 + k.2) / 2 by omega, show (IntKind.i64.wrap ((IntKind.u64.wrap ((k.1 : Int) + (k.2 : Int))).fdiv (2 ^ min (Int.toNat 1) IntKind.u64.bits))).toNat = (k.1 + k.2) / 2 by omega]
    obtain ⟨bb, hbb⟩ : ∃ bb, bb = lt (π (mid + m - 1 - (k.1 + k.2) / 2)) (π ((k.1 + k.2) / 2)) := ⟨_, rfl⟩
    rw [hv, ← hbb] at hl2
    have hnF : bb = false → ∀ c, (mid + m - b) ≤ c → c < (k.1 + k.2) / 2 + 1 → lt (π (mid + m - 1 - c)) (π c) = false := fun hb c c1 c2 => hM.mono_not hw (by omega) (by omega : c ≤ (k.1 + k.2) / 2) (by omega) (by omega) (by omega : mid + m - 1 - (k.1 + k.2) / 2 ≤ mid + m - 1 - c) (by omega) (hbb.symm.trans hb)
    have hnT : bb = true → ∀ c, (k.1 + k.2) / 2 ≤ c → c < mid → lt (π (mid + m - 1 - c)) (π c) = true := fun hb c c1 c2 => hM.mono hw (by omega : a ≤ (k.1 + k.2) / 2) c1 (by omega) (by omega) (by omega : mid + m - 1 - c ≤ mid + m - 1 - (k.1 + k.2) / 2) (by omega) (hbb.symm.trans hb)
    clear hbb hv
    repeat' first
      | refine Or.inr ⟨_, _, _, Or.inl (hl2), by kernel_rfl, (by repeat' first | exact trivial | exact rfl | kernel_rfl | exact Dle.of_eq rfl | exact MLe.of_eq rfl | exact Dle.i (by omega) | exact Dle.i (by simp only [Int.toNat_natCast] at *; omega) | exact Dle.nil | exact Dle.rc Dle.nil | exact Option.some_ne_none _ | exact Or.inl rfl | exact Or.inr trivial | omega | (simp only [Int.toNat_natCast] at *; omega) | (intro _ _ _ _; exact Dle.of_eq rfl) | refine And.intro ?_ ?_), ?_⟩
      | (refine codeW_cond rfl ?_; first | (refine condW_dec ?_ ?_ <;> intro _ <;> try (exfalso; omega)) | refine condW_not ?_ | (refine condW_bool ?_ ?_ <;> intro _ <;> try (exfalso; omega)))
      | (refine facW_intro ?_; intro _)
      | refine Or.inl ?_
      | ((conv => whnf); first | (refine condW_dec ?_ ?_ <;> intro _ <;> try (exfalso; omega)) | refine condW_not ?_ | (refine condW_bool ?_ ?_ <;> intro _ <;> try (exfalso; omega)) | (refine nbC_t (fun _ => ?_) ?_) | (refine nbC_f ?_ (fun _ => ?_)))
      | refine And.intro (by first | omega | (simp only [Int.toNat_natCast] at *; omega) | (simp only [Nat.reduceAdd, Int.cast_ofNat_Int, true_and, and_true]; omega)  | kernel_rfl) ?_
      | refine RegW.run ?_
      | fail
    all_goals first
      | (exfalso; omega)
      | (have hnext := hnF (by assumption); exact ⟨((k.1 + k.2) / 2 + 1, k.2), ⟨by show (mid + m - b) ≤ (k.1 + k.2) / 2 + 1; omega, by show (k.1 + k.2) / 2 + 1 ≤ k.2; omega, k3, hnext, k5⟩, ⟨[], ⟨by kernel_rfl, by kernel_rfl, by kernel_rfl, by kernel_rfl, by kernel_rfl, by kernel_rfl, by kernel_rfl⟩, (by repeat' first | (exact Dle.i (by show _ = (((k.1 + k.2) / 2 + 1 : Nat) : Int); omega)) | exact trivial | exact rfl | kernel_rfl | exact Dle.of_eq rfl | exact MLe.of_eq rfl | exact Dle.i (by omega) | exact Dle.i (by simp only [Int.toNat_natCast] at *; omega) | exact Dle.nil | exact Dle.rc Dle.nil | exact Option.some_ne_none _ | exact Or.inl rfl | exact Or.inr trivial | omega | (simp only [Int.toNat_natCast] at *; omega) | (intro _ _ _ _; exact Dle.of_eq rfl) | refine And.intro ?_ ?_)⟩, by first | omega | (dsimp only; omega)⟩)
      | (have hnext := hnT (by assumption); exact ⟨(k.1, (k.1 + k.2) / 2), ⟨k1, by show k.1 ≤ (k.1 + k.2) / 2; omega, by show (k.1 + k.2) / 2 ≤ mid; omega, k4, hnext⟩, ⟨[], ⟨by kernel_rfl, by kernel_rfl, by kernel_rfl, by kernel_rfl, by kernel_rfl, by kernel_rfl, by kernel_rfl⟩, (by repeat' first | (exact Dle.i (by show _ = (((k.1 + k.2) / 2 : Nat) : Int); omega)) | exact trivial | exact rfl | kernel_rfl | exact Dle.of_eq rfl | exact MLe.of_eq rfl | exact Dle.i (by omega) | exact Dle.i (by simp only [Int.toNat_natCast] at *; omega) | exact Dle.nil | exact Dle.rc Dle.nil | exact Option.some_ne_none _ | exact Or.inl rfl | exact Or.inr trivial | omega | (simp only [Int.toNat_natCast] at *; omega) | (intro _ _ _ _; exact Dle.of_eq rfl) | refine And.intro ?_ ?_)⟩, by first | omega | (dsimp only; omega)⟩)
      | trace_state
  · have hcut := hM.cut hw ham' hmb' (mid := mid) (lo := (mid + m - b)) (hi := mid) (s := k.1) hmd (by rw [if_pos (by omega)]) (by rw [if_pos (by omega)]) k1 (by omega) k4 (fun c c1 c2 => k5 c (by omega) c2)
    obtain ⟨e, he⟩ : ∃ e, e = mid + m - k.1 := ⟨_, rfl⟩
    rw [← he] at hcut
    have hme := hcut.pm; have heb := hcut.pe; have hks := hcut.ps; have hka := hcut.pa
    have hF := hM.first hcut; have hS := hM.second hw hcut; have hWh := hM.whole hw hcut
    rw [show k.1 + (e - m) = mid by omega] at hF hS hWh
    have hei : ((IntKind.i64.wrap ((IntKind.u64.wrap ((a : Int) + (b : Int))).fdiv (2 ^ min (Int.toNat 1) IntKind.u64.bits))) + m - k.1).toNat = e := by omega
    have hqin : ∀ x, x < n → rot π k.1 m e x < n := rot_in hπ hks hme (by omega)
    have hrin : ∀ x, x < n → srt lt id (rot π k.1 m e) a mid x < n := srt_in hw (hF.ne hw) hqin (by omega)
    have hrot : k.1 < m → m < e → SpH (cx Tryz.prog mixed tyT_ok E) 135 [lsR g n, i64 k.1, i64 m, i64 ((IntKind.i64.wrap ((IntKind.u64.wrap ((a : Int) + (b : Int))).fdiv (2 ^ min (Int.toNat 1) IntKind.u64.bits))) + m - k.1)] (SHR n vl π) (.tup []) (SHR n vl (rot π k.1 m e)) := fun q1 q2 => by
      have := rotate_l E n hn vl g π hπ (k.1 : Int) (m : Int) ((IntKind.i64.wrap ((IntKind.u64.wrap ((a : Int) + (b : Int))).fdiv (2 ^ min (Int.toNat 1) IntKind.u64.bits))) + m - k.1) (by omega) (by omega) (by omega) (by omega)
      rwa [hei, Int.toNat_natCast, Int.toNat_natCast] at this
    have hs1 : a < k.1 → k.1 < mid → SpH (cx Tryz.prog mixed tyT_ok E) 124 [lsR g n, i64 a, i64 k.1, i64 (IntKind.i64.wrap ((IntKind.u64.wrap ((a : Int) + (b : Int))).fdiv (2 ^ min (Int.toNat 1) IntKind.u64.bits)))] (SHR n vl (rot π k.1 m e)) (.tup []) (SHR n vl (srt lt id (rot π k.1 m e) a mid)) := fun q1 q2 => by
      have := ih (rot π k.1 m e) hqin (a : Int) (k.1 : Int) (IntKind.i64.wrap ((IntKind.u64.wrap ((a : Int) + (b : Int))).fdiv (2 ^ min (Int.toNat 1) IntKind.u64.bits))) (by omega) (by omega) (by omega) (by omega) (by omega) (by rw [hmi, Int.toNat_natCast, Int.toNat_natCast]; exact hF)
      rwa [hmi, Int.toNat_natCast] at this
    have hs2 : mid < e → e < b → SpH (cx Tryz.prog mixed tyT_ok E) 124 [lsR g n, i64 (IntKind.i64.wrap ((IntKind.u64.wrap ((a : Int) + (b : Int))).fdiv (2 ^ min (Int.toNat 1) IntKind.u64.bits))), i64 ((IntKind.i64.wrap ((IntKind.u64.wrap ((a : Int) + (b : Int))).fdiv (2 ^ min (Int.toNat 1) IntKind.u64.bits))) + m - k.1), i64 b] (SHR n vl (srt lt id (rot π k.1 m e) a mid)) (.tup []) (SHR n vl (srt lt id π a b)) := fun q1 q2 => by
      have := ih (srt lt id (rot π k.1 m e) a mid) hrin (IntKind.i64.wrap ((IntKind.u64.wrap ((a : Int) + (b : Int))).fdiv (2 ^ min (Int.toNat 1) IntKind.u64.bits))) ((IntKind.i64.wrap ((IntKind.u64.wrap ((a : Int) + (b : Int))).fdiv (2 ^ min (Int.toNat 1) IntKind.u64.bits))) + m - k.1) (b : Int) (by omega) (by omega) (by omega) (by omega) (by omega) (by rw [hmi, hei, Int.toNat_natCast]; exact hS)
      rwa [hmi, Int.toNat_natCast, ← hWh] at this
    have n0 : ¬ (k.1 < m ∧ m < e) → rot π k.1 m e = π := fun h => by
      by_cases h1 : k.1 = m
      · rw [h1]; exact rot_none1
      · rw [show e = m by omega]; exact rot_none2
    have n1 : ¬ (a < k.1 ∧ k.1 < mid) → srt lt id (rot π k.1 m e) a mid = rot π k.1 m e := fun h => by
      by_cases h1 : k.1 = a
      · exact srt_self hw (hF.s2.sub (by omega) (by omega))
      · exact srt_self hw (hF.s1.sub (by omega) (by omega))
    have n2 : ¬ (mid < e ∧ e < b) → srt lt id π a b = srt lt id (rot π k.1 m e) a mid := fun h => by
      rw [hWh]
      by_cases h1 : e = mid
      · exact srt_self hw (hS.s2.sub (by omega) (by omega))
      · exact srt_self hw (hS.s1.sub (by omega) (by omega))
    clear hF hS hWh ih
    by_cases c0 : k.1 < m ∧ m < e
    · have hrot := hrot c0.1 c0.2
      by_cases c1 : a < k.1 ∧ k.1 < mid
      · have hs1 := hs1 c1.1 c1.2
        by_cases c2 : mid < e ∧ e < b
        · have hs2 := hs2 c2.1 c2.2
          repeat' first
            | refine Or.inr ⟨_, _, _, Or.inl (hrot), by kernel_rfl, (by repeat' first | exact trivial | exact rfl | kernel_rfl | exact Dle.of_eq rfl | exact MLe.of_eq rfl | exact Dle.i (by omega) | exact Dle.i (by simp only [Int.toNat_natCast] at *; omega) | exact Dle.nil | exact Dle.rc Dle.nil | exact Option.some_ne_none _ | exact Or.inl rfl | exact Or.inr trivial | omega | (simp only [Int.toNat_natCast] at *; omega) | (intro _ _ _ _; exact Dle.of_eq rfl) | refine And.intro ?_ ?_), ?_⟩
            | refine Or.inr ⟨_, _, _, Or.inl (hs1), by kernel_rfl, (by repeat' first | exact trivial | exact rfl | kernel_rfl | exact Dle.of_eq rfl | exact MLe.of_eq rfl | exact Dle.i (by omega) | exact Dle.i (by simp only [Int.toNat_natCast] at *; omega) | exact Dle.nil | exact Dle.rc Dle.nil | exact Option.some_ne_none _ | exact Or.inl rfl | exact Or.inr trivial | omega | (simp only [Int.toNat_natCast] at *; omega) | (intro _ _ _ _; exact Dle.of_eq rfl) | refine And.intro ?_ ?_), ?_⟩
            | refine Or.inr ⟨_, _, _, Or.inl (hs2), by kernel_rfl, (by repeat' first | exact trivial | exact rfl | kernel_rfl | exact Dle.of_eq rfl | exact MLe.of_eq rfl | exact Dle.i (by omega) | exact Dle.i (by simp only [Int.toNat_natCast] at *; omega) | exact Dle.nil | exact Dle.rc Dle.nil | exact Option.some_ne_none _ | exact Or.inl rfl | exact Or.inr trivial | omega | (simp only [Int.toNat_natCast] at *; omega) | (intro _ _ _ _; exact Dle.of_eq rfl) | refine And.intro ?_ ?_), ?_⟩
            | (refine codeW_cond rfl ?_; first | (refine condW_dec ?_ ?_ <;> intro _ <;> try (exfalso; omega)) | refine condW_not ?_ | (refine condW_bool ?_ ?_ <;> intro _ <;> try (exfalso; omega)))
            | (refine facW_intro ?_; intro _)
            | refine Or.inl ?_
            | ((conv => whnf); first | (refine condW_dec ?_ ?_ <;> intro _ <;> try (exfalso; omega)) | refine condW_not ?_ | (refine condW_bool ?_ ?_ <;> intro _ <;> try (exfalso; omega)) | (refine nbC_t (fun _ => ?_) ?_) | (refine nbC_f ?_ (fun _ => ?_)))
            | refine And.intro (by first | omega | (simp only [Int.toNat_natCast] at *; omega) | (simp only [Nat.reduceAdd, Int.cast_ofNat_Int, true_and, and_true]; omega)  | kernel_rfl) ?_
            | refine RegW.run ?_
            | fail
          all_goals first
            | (exfalso; omega)
            | exact ⟨[(2000, .row 3 n (rwI (srt lt id π a b))), (2001, .cells [.rc (.vals vl)]), (2002, .cells [.own 2000 1 0 n])], [], rfl, ⟨[], ⟨by kernel_rfl, by kernel_rfl, by kernel_rfl, by kernel_rfl, by kernel_rfl, by kernel_rfl, by kernel_rfl⟩, (by repeat' first | ((intro i' j' hi' hj'; exact Dle.refl _ _)) | exact trivial | exact rfl | kernel_rfl | exact Dle.of_eq rfl | exact MLe.of_eq rfl | exact Dle.i (by omega) | exact Dle.i (by simp only [Int.toNat_natCast] at *; omega) | exact Dle.nil | exact Dle.rc Dle.nil | exact Option.some_ne_none _ | exact Or.inl rfl | exact Or.inr trivial | omega | (simp only [Int.toNat_natCast] at *; omega) | (intro _ _ _ _; exact Dle.of_eq rfl) | refine And.intro ?_ ?_)⟩, rfl⟩
            | trace_state
        · have n2 := n2 c2
          repeat' first
            | refine Or.inr ⟨_, _, _, Or.inl (hrot), by kernel_rfl, (by repeat' first | exact trivial | exact rfl | kernel_rfl | exact Dle.of_eq rfl | exact MLe.of_eq rfl | exact Dle.i (by omega) | exact Dle.i (by simp only [Int.toNat_natCast] at *; omega) | exact Dle.nil | exact Dle.rc Dle.nil | exact Option.some_ne_none _ | exact Or.inl rfl | exact Or.inr trivial | omega | (simp only [Int.toNat_natCast] at *; omega) | (intro _ _ _ _; exact Dle.of_eq rfl) | refine And.intro ?_ ?_), ?_⟩
            | refine Or.inr ⟨_, _, _, Or.inl (hs1), by kernel_rfl, (by repeat' first | exact trivial | exact rfl | kernel_rfl | exact Dle.of_eq rfl | exact MLe.of_eq rfl | exact Dle.i (by omega) | exact Dle.i (by simp only [Int.toNat_natCast] at *; omega) | exact Dle.nil | exact Dle.rc Dle.nil | exact Option.some_ne_none _ | exact Or.inl rfl | exact Or.inr trivial | omega | (simp only [Int.toNat_natCast] at *; omega) | (intro _ _ _ _; exact Dle.of_eq rfl) | refine And.intro ?_ ?_), ?_⟩
            | (refine codeW_cond rfl ?_; first | (refine condW_dec ?_ ?_ <;> intro _ <;> try (exfalso; omega)) | refine condW_not ?_ | (refine condW_bool ?_ ?_ <;> intro _ <;> try (exfalso; omega)))
            | (refine facW_intro ?_; intro _)
            | refine Or.inl ?_
            | ((conv => whnf); first | (refine condW_dec ?_ ?_ <;> intro _ <;> try (exfalso; omega)) | refine condW_not ?_ | (refine condW_bool ?_ ?_ <;> intro _ <;> try (exfalso; omega)) | (refine nbC_t (fun _ => ?_) ?_) | (refine nbC_f ?_ (fun _ => ?_)))
            | refine And.intro (by first | omega | (simp only [Int.toNat_natCast] at *; omega) | (simp only [Nat.reduceAdd, Int.cast_ofNat_Int, true_and, and_true]; omega)  | kernel_rfl) ?_
            | refine RegW.run ?_
            | fail
          all_goals first
            | (exfalso; omega)
            | exact ⟨[(2000, .row 3 n (rwI (srt lt id π a b))), (2001, .cells [.rc (.vals vl)]), (2002, .cells [.own 2000 1 0 n])], [], rfl, ⟨[], ⟨by kernel_rfl, by kernel_rfl, by kernel_rfl, by kernel_rfl, by kernel_rfl, by kernel_rfl, by kernel_rfl⟩, (by repeat' first | ((intro i' j' hi' hj'; rw [n2]; exact Dle.refl _ _)) | exact trivial | exact rfl | kernel_rfl | exact Dle.of_eq rfl | exact MLe.of_eq rfl | exact Dle.i (by omega) | exact Dle.i (by simp only [Int.toNat_natCast] at *; omega) | exact Dle.nil | exact Dle.rc Dle.nil | exact Option.some_ne_none _ | exact Or.inl rfl | exact Or.inr trivial | omega | (simp only [Int.toNat_natCast] at *; omega) | (intro _ _ _ _; exact Dle.of_eq rfl) | refine And.intro ?_ ?_)⟩, rfl⟩
            | trace_state
      · have n1 := n1 c1
        rw [n1] at hs2 n2
        by_cases c2 : mid < e ∧ e < b
        · have hs2 := hs2 c2.1 c2.2
          repeat' first
            | refine Or.inr ⟨_, _, _, Or.inl (hrot), by kernel_rfl, (by repeat' first | exact trivial | exact rfl | kernel_rfl | exact Dle.of_eq rfl | exact MLe.of_eq rfl | exact Dle.i (by omega) | exact Dle.i (by simp only [Int.toNat_natCast] at *; omega) | exact Dle.nil | exact Dle.rc Dle.nil | exact Option.some_ne_none _ | exact Or.inl rfl | exact Or.inr trivial | omega | (simp only [Int.toNat_natCast] at *; omega) | (intro _ _ _ _; exact Dle.of_eq rfl) | refine And.intro ?_ ?_), ?_⟩
            | refine Or.inr ⟨_, _, _, Or.inl (hs2), by kernel_rfl, (by repeat' first | exact trivial | exact rfl | kernel_rfl | exact Dle.of_eq rfl | exact MLe.of_eq rfl | exact Dle.i (by omega) | exact Dle.i (by simp only [Int.toNat_natCast] at *; omega) | exact Dle.nil | exact Dle.rc Dle.nil | exact Option.some_ne_none _ | exact Or.inl rfl | exact Or.inr trivial | omega | (simp only [Int.toNat_natCast] at *; omega) | (intro _ _ _ _; exact Dle.of_eq rfl) | refine And.intro ?_ ?_), ?_⟩
            | (refine codeW_cond rfl ?_; first | (refine condW_dec ?_ ?_ <;> intro _ <;> try (exfalso; omega)) | refine condW_not ?_ | (refine condW_bool ?_ ?_ <;> intro _ <;> try (exfalso; omega)))
            | (refine facW_intro ?_; intro _)
            | refine Or.inl ?_
            | ((conv => whnf); first | (refine condW_dec ?_ ?_ <;> intro _ <;> try (exfalso; omega)) | refine condW_not ?_ | (refine condW_bool ?_ ?_ <;> intro _ <;> try (exfalso; omega)) | (refine nbC_t (fun _ => ?_) ?_) | (refine nbC_f ?_ (fun _ => ?_)))
            | refine And.intro (by first | omega | (simp only [Int.toNat_natCast] at *; omega) | (simp only [Nat.reduceAdd, Int.cast_ofNat_Int, true_and, and_true]; omega)  | kernel_rfl) ?_
            | refine RegW.run ?_
            | fail
          all_goals first
            | (exfalso; omega)
            | exact ⟨[(2000, .row 3 n (rwI (srt lt id π a b))), (2001, .cells [.rc (.vals vl)]), (2002, .cells [.own 2000 1 0 n])], [], rfl, ⟨[], ⟨by kernel_rfl, by kernel_rfl, by kernel_rfl, by kernel_rfl, by kernel_rfl, by kernel_rfl, by kernel_rfl⟩, (by repeat' first | ((intro i' j' hi' hj'; exact Dle.refl _ _)) | exact trivial | exact rfl | kernel_rfl | exact Dle.of_eq rfl | exact MLe.of_eq rfl | exact Dle.i (by omega) | exact Dle.i (by simp only [Int.toNat_natCast] at *; omega) | exact Dle.nil | exact Dle.rc Dle.nil | exact Option.some_ne_none _ | exact Or.inl rfl | exact Or.inr trivial | omega | (simp only [Int.toNat_natCast] at *; omega) | (intro _ _ _ _; exact Dle.of_eq rfl) | refine And.intro ?_ ?_)⟩, rfl⟩
            | trace_state
        · have n2 := n2 c2
          repeat' first
            | refine Or.inr ⟨_, _, _, Or.inl (hrot), by kernel_rfl, (by repeat' first | exact trivial | exact rfl | kernel_rfl | exact Dle.of_eq rfl | exact MLe.of_eq rfl | exact Dle.i (by omega) | exact Dle.i (by simp only [Int.toNat_natCast] at *; omega) | exact Dle.nil | exact Dle.rc Dle.nil | exact Option.some_ne_none _ | exact Or.inl rfl | exact Or.inr trivial | omega | (simp only [Int.toNat_natCast] at *; omega) | (intro _ _ _ _; exact Dle.of_eq rfl) | refine And.intro ?_ ?_), ?_⟩
            | (refine codeW_cond rfl ?_; first | (refine condW_dec ?_ ?_ <;> intro _ <;> try (exfalso; omega)) | refine condW_not ?_ | (refine condW_bool ?_ ?_ <;> intro _ <;> try (exfalso; omega)))
            | (refine facW_intro ?_; intro _)
            | refine Or.inl ?_
            | ((conv => whnf); first | (refine condW_dec ?_ ?_ <;> intro _ <;> try (exfalso; omega)) | refine condW_not ?_ | (refine condW_bool ?_ ?_ <;> intro _ <;> try (exfalso; omega)) | (refine nbC_t (fun _ => ?_) ?_) | (refine nbC_f ?_ (fun _ => ?_)))
            | refine And.intro (by first | omega | (simp only [Int.toNat_natCast] at *; omega) | (simp only [Nat.reduceAdd, Int.cast_ofNat_Int, true_and, and_true]; omega)  | kernel_rfl) ?_
            | refine RegW.run ?_
            | fail
          all_goals first
            | (exfalso; omega)
            | exact ⟨[(2000, .row 3 n (rwI (srt lt id π a b))), (2001, .cells [.rc (.vals vl)]), (2002, .cells [.own 2000 1 0 n])], [], rfl, ⟨[], ⟨by kernel_rfl, by kernel_rfl, by kernel_rfl, by kernel_rfl, by kernel_rfl, by kernel_rfl, by kernel_rfl⟩, (by repeat' first | ((intro i' j' hi' hj'; rw [n2]; exact Dle.refl _ _)) | exact trivial | exact rfl | kernel_rfl | exact Dle.of_eq rfl | exact MLe.of_eq rfl | exact Dle.i (by omega) | exact Dle.i (by simp only [Int.toNat_natCast] at *; omega) | exact Dle.nil | exact Dle.rc Dle.nil | exact Option.some_ne_none _ | exact Or.inl rfl | exact Or.inr trivial | omega | (simp only [Int.toNat_natCast] at *; omega) | (intro _ _ _ _; exact Dle.of_eq rfl) | refine And.intro ?_ ?_)⟩, rfl⟩
            | trace_state
    · have n0 := n0 c0
      rw [n0] at hs1 hs2 n1 n2
      by_cases c1 : a < k.1 ∧ k.1 < mid
      · have hs1 := hs1 c1.1 c1.2
        by_cases c2 : mid < e ∧ e < b
        · have hs2 := hs2 c2.1 c2.2
          repeat' first
            | refine Or.inr ⟨_, _, _, Or.inl (hs1), by kernel_rfl, (by repeat' first | exact trivial | exact rfl | kernel_rfl | exact Dle.of_eq rfl | exact MLe.of_eq rfl | exact Dle.i (by omega) | exact Dle.i (by simp only [Int.toNat_natCast] at *; omega) | exact Dle.nil | exact Dle.rc Dle.nil | exact Option.some_ne_none _ | exact Or.inl rfl | exact Or.inr trivial | omega | (simp only [Int.toNat_natCast] at *; omega) | (intro _ _ _ _; exact Dle.of_eq rfl) | refine And.intro ?_ ?_), ?_⟩
            | refine Or.inr ⟨_, _, _, Or.inl (hs2), by kernel_rfl, (by repeat' first | exact trivial | exact rfl | kernel_rfl | exact Dle.of_eq rfl | exact MLe.of_eq rfl | exact Dle.i (by omega) | exact Dle.i (by simp only [Int.toNat_natCast] at *; omega) | exact Dle.nil | exact Dle.rc Dle.nil | exact Option.some_ne_none _ | exact Or.inl rfl | exact Or.inr trivial | omega | (simp only [Int.toNat_natCast] at *; omega) | (intro _ _ _ _; exact Dle.of_eq rfl) | refine And.intro ?_ ?_), ?_⟩
            | (refine codeW_cond rfl ?_; first | (refine condW_dec ?_ ?_ <;> intro _ <;> try (exfalso; omega)) | refine condW_not ?_ | (refine condW_bool ?_ ?_ <;> intro _ <;> try (exfalso; omega)))
            | (refine facW_intro ?_; intro _)
            | refine Or.inl ?_
            | ((conv => whnf); first | (refine condW_dec ?_ ?_ <;> intro _ <;> try (exfalso; omega)) | refine condW_not ?_ | (refine condW_bool ?_ ?_ <;> intro _ <;> try (exfalso; omega)) | (refine nbC_t (fun _ => ?_) ?_) | (refine nbC_f ?_ (fun _ => ?_)))
            | refine And.intro (by first | omega | (simp only [Int.toNat_natCast] at *; omega) | (simp only [Nat.reduceAdd, Int.cast_ofNat_Int, true_and, and_true]; omega)  | kernel_rfl) ?_
            | refine RegW.run ?_
            | fail
          all_goals first
            | (exfalso; omega)
            | exact ⟨[(2000, .row 3 n (rwI (srt lt id π a b))), (2001, .cells [.rc (.vals vl)]), (2002, .cells [.own 2000 1 0 n])], [], rfl, ⟨[], ⟨by kernel_rfl, by kernel_rfl, by kernel_rfl, by kernel_rfl, by kernel_rfl, by kernel_rfl, by kernel_rfl⟩, (by repeat' first | ((intro i' j' hi' hj'; exact Dle.refl _ _)) | exact trivial | exact rfl | kernel_rfl | exact Dle.of_eq rfl | exact MLe.of_eq rfl | exact Dle.i (by omega) | exact Dle.i (by simp only [Int.toNat_natCast] at *; omega) | exact Dle.nil | exact Dle.rc Dle.nil | exact Option.some_ne_none _ | exact Or.inl rfl | exact Or.inr trivial | omega | (simp only [Int.toNat_natCast] at *; omega) | (intro _ _ _ _; exact Dle.of_eq rfl) | refine And.intro ?_ ?_)⟩, rfl⟩
            | trace_state
        · have n2 := n2 c2
          repeat' first
            | refine Or.inr ⟨_, _, _, Or.inl (hs1), by kernel_rfl, (by repeat' first | exact trivial | exact rfl | kernel_rfl | exact Dle.of_eq rfl | exact MLe.of_eq rfl | exact Dle.i (by omega) | exact Dle.i (by simp only [Int.toNat_natCast] at *; omega) | exact Dle.nil | exact Dle.rc Dle.nil | exact Option.some_ne_none _ | exact Or.inl rfl | exact Or.inr trivial | omega | (simp only [Int.toNat_natCast] at *; omega) | (intro _ _ _ _; exact Dle.of_eq rfl) | refine And.intro ?_ ?_), ?_⟩
            | (refine codeW_cond rfl ?_; first | (refine condW_dec ?_ ?_ <;> intro _ <;> try (exfalso; omega)) | refine condW_not ?_ | (refine condW_bool ?_ ?_ <;> intro _ <;> try (exfalso; omega)))
            | (refine facW_intro ?_; intro _)
            | refine Or.inl ?_
            | ((conv => whnf); first | (refine condW_dec ?_ ?_ <;> intro _ <;> try (exfalso; omega)) | refine condW_not ?_ | (refine condW_bool ?_ ?_ <;> intro _ <;> try (exfalso; omega)) | (refine nbC_t (fun _ => ?_) ?_) | (refine nbC_f ?_ (fun _ => ?_)))
            | refine And.intro (by first | omega | (simp only [Int.toNat_natCast] at *; omega) | (simp only [Nat.reduceAdd, Int.cast_ofNat_Int, true_and, and_true]; omega)  | kernel_rfl) ?_
            | refine RegW.run ?_
            | fail
          all_goals first
            | (exfalso; omega)
            | exact ⟨[(2000, .row 3 n (rwI (srt lt id π a b))), (2001, .cells [.rc (.vals vl)]), (2002, .cells [.own 2000 1 0 n])], [], rfl, ⟨[], ⟨by kernel_rfl, by kernel_rfl, by kernel_rfl, by kernel_rfl, by kernel_rfl, by kernel_rfl, by kernel_rfl⟩, (by repeat' first | ((intro i' j' hi' hj'; rw [n2]; exact Dle.refl _ _)) | exact trivial | exact rfl | kernel_rfl | exact Dle.of_eq rfl | exact MLe.of_eq rfl | exact Dle.i (by omega) | exact Dle.i (by simp only [Int.toNat_natCast] at *; omega) | exact Dle.nil | exact Dle.rc Dle.nil | exact Option.some_ne_none _ | exact Or.inl rfl | exact Or.inr trivial | omega | (simp only [Int.toNat_natCast] at *; omega) | (intro _ _ _ _; exact Dle.of_eq rfl) | refine And.intro ?_ ?_)⟩, rfl⟩
            | trace_state
      · have n1 := n1 c1
        rw [n1] at hs2 n2
        by_cases c2 : mid < e ∧ e < b
        · have hs2 := hs2 c2.1 c2.2
          repeat' first
            | refine Or.inr ⟨_, _, _, Or.inl (hs2), by kernel_rfl, (by repeat' first | exact trivial | exact rfl | kernel_rfl | exact Dle.of_eq rfl | exact MLe.of_eq rfl | exact Dle.i (by omega) | exact Dle.i (by simp only [Int.toNat_natCast] at *; omega) | exact Dle.nil | exact Dle.rc Dle.nil | exact Option.some_ne_none _ | exact Or.inl rfl | exact Or.inr trivial | omega | (simp only [Int.toNat_natCast] at *; omega) | (intro _ _ _ _; exact Dle.of_eq rfl) | refine And.intro ?_ ?_), ?_⟩
            | (refine codeW_cond rfl ?_; first | (refine condW_dec ?_ ?_ <;> intro _ <;> try (exfalso; omega)) | refine condW_not ?_ | (refine condW_bool ?_ ?_ <;> intro _ <;> try (exfalso; omega)))
            | (refine facW_intro ?_; intro _)
            | refine Or.inl ?_
            | ((conv => whnf); first | (refine condW_dec ?_ ?_ <;> intro _ <;> try (exfalso; omega)) | refine condW_not ?_ | (refine condW_bool ?_ ?_ <;> intro _ <;> try (exfalso; omega)) | (refine nbC_t (fun _ => ?_) ?_) | (refine nbC_f ?_ (fun _ => ?_)))
            | refine And.intro (by first | omega | (simp only [Int.toNat_natCast] at *; omega) | (simp only [Nat.reduceAdd, Int.cast_ofNat_Int, true_and, and_true]; omega)  | kernel_rfl) ?_
            | refine RegW.run ?_
            | fail
          all_goals first
            | (exfalso; omega)
            | exact ⟨[(2000, .row 3 n (rwI (srt lt id π a b))), (2001, .cells [.rc (.vals vl)]), (2002, .cells [.own 2000 1 0 n])], [], rfl, ⟨[], ⟨by kernel_rfl, by kernel_rfl, by kernel_rfl, by kernel_rfl, by kernel_rfl, by kernel_rfl, by kernel_rfl⟩, (by repeat' first | ((intro i' j' hi' hj'; exact Dle.refl _ _)) | exact trivial | exact rfl | kernel_rfl | exact Dle.of_eq rfl | exact MLe.of_eq rfl | exact Dle.i (by omega) | exact Dle.i (by simp only [Int.toNat_natCast] at *; omega) | exact Dle.nil | exact Dle.rc Dle.nil | exact Option.some_ne_none _ | exact Or.inl rfl | exact Or.inr trivial | omega | (simp only [Int.toNat_natCast] at *; omega) | (intro _ _ _ _; exact Dle.of_eq rfl) | refine And.intro ?_ ?_)⟩, rfl⟩
            | trace_state
        · have n2 := n2 c2
          repeat' first
            | (refine codeW_cond rfl ?_; first | (refine condW_dec ?_ ?_ <;> intro _ <;> try (exfalso; omega)) | refine condW_not ?_ | (refine condW_bool ?_ ?_ <;> intro _ <;> try (exfalso; omega)))
            | (refine facW_intro ?_; intro _)
            | refine Or.inl ?_
            | ((conv => whnf); first | (refine condW_dec ?_ ?_ <;> intro _ <;> try (exfalso; omega)) | refine condW_not ?_ | (refine condW_bool ?_ ?_ <;> intro _ <;> try (exfalso; omega)) | (refine nbC_t (fun _ => ?_) ?_) | (refine nbC_f ?_ (fun _ => ?_)))
            | refine And.intro (by first | omega | (simp only [Int.toNat_natCast] at *; omega) | (simp only [Nat.reduceAdd, Int.cast_ofNat_Int, true_and, and_true]; omega)  | kernel_rfl) ?_
            | refine RegW.run ?_
            | fail
          all_goals first
            | (exfalso; omega)
            | exact ⟨[(2000, .row 3 n (rwI (srt lt id π a b))), (2001, .cells [.rc (.vals vl)]), (2002, .cells [.own 2000 1 0 n])], [], rfl, ⟨[], ⟨by kernel_rfl, by kernel_rfl, by kernel_rfl, by kernel_rfl, by kernel_rfl, by kernel_rfl, by kernel_rfl⟩, (by repeat' first | ((intro i' j' hi' hj'; rw [n2]; exact Dle.refl _ _)) | exact trivial | exact rfl | kernel_rfl | exact Dle.of_eq rfl | exact MLe.of_eq rfl | exact Dle.i (by omega) | exact Dle.i (by simp only [Int.toNat_natCast] at *; omega) | exact Dle.nil | exact Dle.rc Dle.nil | exact Option.some_ne_none _ | exact Or.inl rfl | exact Or.inr trivial | omega | (simp only [Int.toNat_natCast] at *; omega) | (intro _ _ _ _; exact Dle.of_eq rfl) | refine And.intro ?_ ?_)⟩, rfl⟩
            | trace_state
end
end
end sq
end Go.Proofs.YthoemnhigboahaaGreatDoor
