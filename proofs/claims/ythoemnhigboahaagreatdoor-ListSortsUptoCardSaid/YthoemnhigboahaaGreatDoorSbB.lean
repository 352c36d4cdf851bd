/-
  Stable sorting of a lent row of ints under a closure with three captured variables: symMerge, the cut. (Printed by mk_sb6.py, mk_sb6s.py.) Stable sorting of a lent row of ints under a closure with three captured variables: symMerge, the whole. (Printed by mk_sb6.py, mk_sb6s.py.) Stable sorting in blocks, in plain words.
-/
import Derived.Test.YthoemnhigboahaaGreatDoorSb6
import Derived.Test.YthoemnhigboahaaGreatDoorSb7
import Derived.Test.YthoemnhigboahaaGreatDoorSb8
namespace Go.Proofs.YthoemnhigboahaaGreatDoor
open Go.RowKit
set_option linter.unusedVariables false
set_option linter.unusedSimpArgs false
namespace sb
section
variable {lt : Nat → Nat → Bool}
section
variable (E : Env)
set_option maxRecDepth 100000
set_option maxHeartbeats 16000000 in
theorem symCutR (n vm ks kb kn : Nat) (hn : n ≤ 1000000000) (kf fv : Nat → Nat → DD) (g : Nat) (hw : Wk lt) (hl : LessA E n vm ks kb kn kf fv g lt) (π : Nat → Nat) (hπ : ∀ k, k < n → π k < n) (a m b : Nat) (ham' : a < m) (hmb' : m < b) (hb : (b : Int) ≤ n) (hM : Mg lt π a m b) (hc1 : ¬ m = a + 1) (hc2 : ¬ b = m + 1) (N : Nat) (hN : (b : Int) - a < (N + 1 : Nat)) (ih : SymA E n vm ks kb kn kf fv g lt N) (mid : Nat) (hmd : mid = (a + b) / 2) (hmm : ¬ mid < m) :
    SpH (cx Tryz.prog mixed tyT_ok E) 124 [lsD g n, i64 a, i64 m, i64 b] (SHA n vm ks kb kn kf fv π) (.tup []) (SHA n vm ks kb kn kf fv (srt lt id π a b)) := by
  have h0 : (0 : Int) ≤ a := by omega
  have ham : (a : Int) < m := by omega
  have hmb : (m : Int) < b := by omega
  have hmid := mid_eq (a : Int) (b : Int) (by omega) (by omega) (by omega)
  have hmi : (IntKind.i64.wrap ((IntKind.u64.wrap ((a : Int) + (b : Int))).fdiv (2 ^ min (Int.toNat 1) IntKind.u64.bits))).toNat = mid := by omega
  refine SpH.body Tryz.func124 (by kernel_rfl) rfl (by kernel_rfl) (by kernel_rfl) (by kernel_rfl) ?_
  repeat' first
    | (refine codeW_cond rfl ?_; first | (refine condW_dec ?_ ?_ <;> intro _ <;> try (exfalso; omega)) | refine condW_not ?_ | (refine condW_bool ?_ ?_ <;> intro _ <;> try (exfalso; omega)))
    | (refine facW_intro ?_; intro _)
    | refine Or.inl ?_
    | ((conv => whnf); first | (refine condW_dec ?_ ?_ <;> intro _ <;> try (exfalso; omega)) | refine condW_not ?_ | (refine condW_bool ?_ ?_ <;> intro _ <;> try (exfalso; omega)) | (refine nbC_t (fun _ => ?_) ?_) | (refine nbC_f ?_ (fun _ => ?_)))
    | refine And.intro (by first | omega | (simp only [Int.toNat_natCast] at *; omega) | (simp only [Nat.reduceAdd, Int.cast_ofNat_Int, true_and, and_true]; omega)  | kernel_rfl) ?_
    | refine RegW.run ?_
    | fail
  refine ⟨Nat × Nat, fun k => [(18, i64 k.1), (19, i64 k.2)], fun k => [], [4, 2000, 2001, 2002, 2003, 2004], fun k => [], fun k => a ≤ k.1 ∧ k.1 ≤ k.2 ∧ k.2 ≤ m ∧ (∀ c, a ≤ c → c < k.1 → lt (π (mid + m - 1 - c)) (π c) = false) ∧ ∀ c, k.2 ≤ c → c < m → lt (π (mid + m - 1 - c)) (π c) = true, fun k => k.2 - k.1, ⟨(a, m), ⟨Nat.le_refl _, by show a ≤ m; omega, Nat.le_refl _, fun q q1 q2 => absurd q2 (by show ¬ q < a; omega), fun q q1 q2 => absurd q1 (by show ¬ m ≤ q; omega)⟩, ⟨[], ⟨by kernel_rfl, by kernel_rfl, by kernel_rfl, by kernel_rfl, by kernel_rfl, by kernel_rfl, by kernel_rfl⟩, (by repeat' first | (first | exact Dle.i (by show _ = ((a : Nat) : Int); omega) | exact Dle.i (by show _ = ((m : Nat) : Int); omega)) | exact trivial | exact rfl | kernel_rfl | exact Dle.of_eq rfl | exact MLe.of_eq rfl | exact Dle.i (by omega) | exact Dle.i (by simp only [Int.toNat_natCast] at *; omega) | exact Dle.nil | exact Dle.rc Dle.nil | exact Option.some_ne_none _ | exact Or.inl rfl | exact Or.inr trivial | omega | (simp only [Int.toNat_natCast] at *; omega) | (intro _ _ _ _; exact Dle.of_eq rfl) | refine And.intro ?_ ?_)⟩⟩, fun k hk => ?_⟩
  obtain ⟨k1, k2, k3, k4, k5⟩ := hk
  have hmc := mid_eq (k.1 : Int) (k.2 : Int) (by omega) (by omega) (by omega)
  by_cases hlt : k.1 < k.2
  · have hl2 := hl π hπ ((IntKind.i64.wrap ((IntKind.u64.wrap ((a : Int) + (b : Int))).fdiv (2 ^ min (Int.toNat 1) IntKind.u64.bits))) + m - 1 - (IntKind.i64.wrap ((IntKind.u64.wrap ((k.1 : Int) + (k.2 : Int))).fdiv (2 ^ min (Int.toNat 1) IntKind.u64.bits)))) (IntKind.i64.wrap ((IntKind.u64.wrap ((k.1 : Int) + (k.2 : Int))).fdiv (2 ^ min (Int.toNat 1) IntKind.u64.bits))) (by omega) (by omega) (by omega) (by omega)
    have hv : lt (π ((IntKind.i64.wrap ((IntKind.u64.wrap ((a : Int) + (b : Int))).fdiv (2 ^ min (Int.toNat 1) IntKind.u64.bits))) + m - 1 - (IntKind.i64.wrap ((IntKind.u64.wrap ((k.1 : Int) + (k.2 : Int))).fdiv (2 ^ min (Int.toNat 1) IntKind.u64.bits)))).toNat) (π (IntKind.i64.wrap ((IntKind.u64.wrap ((k.1 : Int) + (k.2 : Int))).fdiv (2 ^ min (Int.toNat 1) IntKind.u64.bits))).toNat) = lt (π (mid + m - 1 - (k.1 + k.2) / 2)) (π ((k.1 + k.2) / 2)) := by
      rw [show ((IntKind.i64.wrap ((IntKind.u64.wrap ((a : Int) + (b : Int))).fdiv (2 ^ min (Int.toNat 1) IntKind.u64.bits))) + m - 1 - (IntKind.i64.wrap ((IntKind.u64.wrap ((k.1 : Int) + (k.2 : Int))).fdiv (2 ^ min (Int.toNat 1) IntKind.u64.bits)))).toNat = mid + m - 1 - (k.1 + k.2) / 2 by omega, show (IntKind.i64.wrap ((IntKind.u64.wrap ((k.1 : Int) + (k.2 : Int))).fdiv (2 ^ min (Int.toNat 1) IntKind.u64.bits))).toNat = (k.1 + k.2) / 2 by omega]
    obtain ⟨bb, hbb⟩ : ∃ bb, bb = lt (π (mid + m - 1 - (k.1 + k.2) / 2)) (π ((k.1 + k.2) / 2)) := ⟨_, rfl⟩
    rw [hv, ← hbb] at hl2
    have hnF : bb = false → ∀ c, a ≤ c → c < (k.1 + k.2) / 2 + 1 → lt (π (mid + m - 1 - c)) (π c) = false := fun hb c c1 c2 => hM.mono_not hw (by omega) (by omega : c ≤ (k.1 + k.2) / 2) (by omega) (by omega) (by omega : mid + m - 1 - (k.1 + k.2) / 2 ≤ mid + m - 1 - c) (by omega) (hbb.symm.trans hb)
    have hnT : bb = true → ∀ c, (k.1 + k.2) / 2 ≤ c → c < m → lt (π (mid + m - 1 - c)) (π c) = true := fun hb c c1 c2 => hM.mono hw (by omega : a ≤ (k.1 + k.2) / 2) c1 (by omega) (by omega) (by omega : mid + m - 1 - c ≤ mid + m - 1 - (k.1 + k.2) / 2) (by omega) (hbb.symm.trans hb)
    clear hbb hv
    repeat' first
      | refine Or.inr ⟨_, _, _, Or.inl (hl2), by kernel_rfl, (by repeat' first | exact trivial | exact rfl | kernel_rfl | exact Dle.of_eq rfl | exact MLe.of_eq rfl | exact Dle.i (by omega) | exact Dle.i (by simp only [Int.toNat_natCast] at *; omega) | exact Dle.nil | exact Dle.rc Dle.nil | exact Option.some_ne_none _ | exact Or.inl rfl | exact Or.inr trivial | omega | (simp only [Int.toNat_natCast] at *; omega) | (intro _ _ _ _; exact Dle.of_eq rfl) | refine And.intro ?_ ?_), ?_⟩
      | (refine codeW_cond rfl ?_; first | (refine condW_dec ?_ ?_ <;> intro _ <;> try (exfalso; omega)) | refine condW_not ?_ | (refine condW_bool ?_ ?_ <;> intro _ <;> try (exfalso; omega)))
      | (refine facW_intro ?_; intro _)
      | refine Or.inl ?_
      | ((conv => whnf); first | (refine condW_dec ?_ ?_ <;> intro _ <;> try (exfalso; omega)) | refine condW_not ?_ | (refine condW_bool ?_ ?_ <;> intro _ <;> try (exfalso; omega)) | (refine nbC_t (fun _ => ?_) ?_) | (refine nbC_f ?_ (fun _ => ?_)))
      | refine And.intro (by first | omega | (simp only [Int.toNat_natCast] at *; omega) | (simp only [Nat.reduceAdd, Int.cast_ofNat_Int, true_and, and_true]; omega)  | kernel_rfl) ?_
      | refine RegW.run ?_
      | fail
    all_goals first
      | (exfalso; omega)
      | (have hnext := hnF (by assumption); exact ⟨((k.1 + k.2) / 2 + 1, k.2), ⟨by show a ≤ (k.1 + k.2) / 2 + 1; omega, by show (k.1 + k.2) / 2 + 1 ≤ k.2; omega, k3, hnext, k5⟩, ⟨[], ⟨by kernel_rfl, by kernel_rfl, by kernel_rfl, by kernel_rfl, by kernel_rfl, by kernel_rfl, by kernel_rfl⟩, (by repeat' first | (exact Dle.i (by show _ = (((k.1 + k.2) / 2 + 1 : Nat) : Int); omega)) | exact trivial | exact rfl | kernel_rfl | exact Dle.of_eq rfl | exact MLe.of_eq rfl | exact Dle.i (by omega) | exact Dle.i (by simp only [Int.toNat_natCast] at *; omega) | exact Dle.nil | exact Dle.rc Dle.nil | exact Option.some_ne_none _ | exact Or.inl rfl | exact Or.inr trivial | omega | (simp only [Int.toNat_natCast] at *; omega) | (intro _ _ _ _; exact Dle.of_eq rfl) | refine And.intro ?_ ?_)⟩, by first | omega | (dsimp only; omega)⟩)
      | (have hnext := hnT (by assumption); exact ⟨(k.1, (k.1 + k.2) / 2), ⟨k1, by show k.1 ≤ (k.1 + k.2) / 2; omega, by show (k.1 + k.2) / 2 ≤ m; omega, k4, hnext⟩, ⟨[], ⟨by kernel_rfl, by kernel_rfl, by kernel_rfl, by kernel_rfl, by kernel_rfl, by kernel_rfl, by kernel_rfl⟩, (by repeat' first | (exact Dle.i (by show _ = (((k.1 + k.2) / 2 : Nat) : Int); omega)) | exact trivial | exact rfl | kernel_rfl | exact Dle.of_eq rfl | exact MLe.of_eq rfl | exact Dle.i (by omega) | exact Dle.i (by simp only [Int.toNat_natCast] at *; omega) | exact Dle.nil | exact Dle.rc Dle.nil | exact Option.some_ne_none _ | exact Or.inl rfl | exact Or.inr trivial | omega | (simp only [Int.toNat_natCast] at *; omega) | (intro _ _ _ _; exact Dle.of_eq rfl) | refine And.intro ?_ ?_)⟩, by first | omega | (dsimp only; omega)⟩)
      | trace_state
  · have hcut := hM.cut hw ham' hmb' (mid := mid) (lo := a) (hi := m) (s := k.1) hmd (by rw [if_neg (by omega)]) (by rw [if_neg (by omega)]) k1 (by omega) k4 (fun c c1 c2 => k5 c (by omega) c2)
    obtain ⟨e, he⟩ : ∃ e, e = mid + m - k.1 := ⟨_, rfl⟩
    rw [← he] at hcut
    have hme := hcut.pm; have heb := hcut.pe; have hks := hcut.ps; have hka := hcut.pa
    have hF := hM.first hcut; have hS := hM.second hw hcut; have hWh := hM.whole hw hcut
    rw [show k.1 + (e - m) = mid by omega] at hF hS hWh
    have hei : ((IntKind.i64.wrap ((IntKind.u64.wrap ((a : Int) + (b : Int))).fdiv (2 ^ min (Int.toNat 1) IntKind.u64.bits))) + m - k.1).toNat = e := by omega
    have hqin : ∀ x, x < n → rot π k.1 m e x < n := rot_in hπ hks hme (by omega)
    have hrin : ∀ x, x < n → srt lt id (rot π k.1 m e) a mid x < n := srt_in hw (hF.ne hw) hqin (by omega)
    have hrot : k.1 < m → m < e → SpH (cx Tryz.prog mixed tyT_ok E) 135 [lsD g n, i64 k.1, i64 m, i64 ((IntKind.i64.wrap ((IntKind.u64.wrap ((a : Int) + (b : Int))).fdiv (2 ^ min (Int.toNat 1) IntKind.u64.bits))) + m - k.1)] (SHA n vm ks kb kn kf fv π) (.tup []) (SHA n vm ks kb kn kf fv (rot π k.1 m e)) := fun q1 q2 => by
      have := rotate_l E n vm ks kb kn hn kf fv g π hπ (k.1 : Int) (m : Int) ((IntKind.i64.wrap ((IntKind.u64.wrap ((a : Int) + (b : Int))).fdiv (2 ^ min (Int.toNat 1) IntKind.u64.bits))) + m - k.1) (by omega) (by omega) (by omega) (by omega)
      rwa [hei, Int.toNat_natCast, Int.toNat_natCast] at this
    have hs1 : a < k.1 → k.1 < mid → SpH (cx Tryz.prog mixed tyT_ok E) 124 [lsD g n, i64 a, i64 k.1, i64 (IntKind.i64.wrap ((IntKind.u64.wrap ((a : Int) + (b : Int))).fdiv (2 ^ min (Int.toNat 1) IntKind.u64.bits)))] (SHA n vm ks kb kn kf fv (rot π k.1 m e)) (.tup []) (SHA n vm ks kb kn kf fv (srt lt id (rot π k.1 m e) a mid)) := fun q1 q2 => by
      have := ih (rot π k.1 m e) hqin (a : Int) (k.1 : Int) (IntKind.i64.wrap ((IntKind.u64.wrap ((a : Int) + (b : Int))).fdiv (2 ^ min (Int.toNat 1) IntKind.u64.bits))) (by omega) (by omega) (by omega) (by omega) (by omega) (by rw [hmi, Int.toNat_natCast, Int.toNat_natCast]; exact hF)
      rwa [hmi, Int.toNat_natCast] at this
    have hs2 : mid < e → e < b → SpH (cx Tryz.prog mixed tyT_ok E) 124 [lsD g n, i64 (IntKind.i64.wrap ((IntKind.u64.wrap ((a : Int) + (b : Int))).fdiv (2 ^ min (Int.toNat 1) IntKind.u64.bits))), i64 ((IntKind.i64.wrap ((IntKind.u64.wrap ((a : Int) + (b : Int))).fdiv (2 ^ min (Int.toNat 1) IntKind.u64.bits))) + m - k.1), i64 b] (SHA n vm ks kb kn kf fv (srt lt id (rot π k.1 m e) a mid)) (.tup []) (SHA n vm ks kb kn kf fv (srt lt id π a b)) := fun q1 q2 => by
      have := ih (srt lt id (rot π k.1 m e) a mid) hrin (IntKind.i64.wrap ((IntKind.u64.wrap ((a : Int) + (b : Int))).fdiv (2 ^ min (Int.toNat 1) IntKind.u64.bits))) ((IntKind.i64.wrap ((IntKind.u64.wrap ((a : Int) + (b : Int))).fdiv (2 ^ min (Int.toNat 1) IntKind.u64.bits))) + m - k.1) (b : Int) (by omega) (by omega) (by omega) (by omega) (by omega) (by rw [hmi, hei, Int.toNat_natCast]; exact hS)
      rwa [hmi, Int.toNat_natCast, ← hWh] at this
    have n0 : ¬ (k.1 < m ∧ m < e) → rot π k.1 m e = π := fun h => by
      by_cases h1 : k.1 = m
      · rw [h1]; exact rot_none1
      · rw [show e = m by omega]; exact rot_none2
    have n1 : ¬ (a < k.1 ∧ k.1 < mid) → srt lt id (rot π k.1 m e) a mid = rot π k.1 m e := fun h => by
      by_cases h1 : k.1 = a
      · exact srt_self hw (hF.s2.sub (by omega) (by omega))
      · exact srt_self hw (hF.s1.sub (by omega) (by omega))
    have n2 : ¬ (mid < e ∧ e < b) → srt lt id π a b = srt lt id (rot π k.1 m e) a mid := fun h => by
      rw [hWh]
      by_cases h1 : e = mid
      · exact srt_self hw (hS.s2.sub (by omega) (by omega))
      · exact srt_self hw (hS.s1.sub (by omega) (by omega))
    clear hF hS hWh ih
    by_cases c0 : k.1 < m ∧ m < e
    · have hrot := hrot c0.1 c0.2
      by_cases c1 : a < k.1 ∧ k.1 < mid
      · have hs1 := hs1 c1.1 c1.2
        by_cases c2 : mid < e ∧ e < b
        · have hs2 := hs2 c2.1 c2.2
          repeat' first
            | refine Or.inr ⟨_, _, _, Or.inl (hrot), by kernel_rfl, (by repeat' first | exact trivial | exact rfl | kernel_rfl | exact Dle.of_eq rfl | exact MLe.of_eq rfl | exact Dle.i (by omega) | exact Dle.i (by simp only [Int.toNat_natCast] at *; omega) | exact Dle.nil | exact Dle.rc Dle.nil | exact Option.some_ne_none _ | exact Or.inl rfl | exact Or.inr trivial | omega | (simp only [Int.toNat_natCast] at *; omega) | (intro _ _ _ _; exact Dle.of_eq rfl) | refine And.intro ?_ ?_), ?_⟩
            | refine Or.inr ⟨_, _, _, Or.inl (hs1), by kernel_rfl, (by repeat' first | exact trivial | exact rfl | kernel_rfl | exact Dle.of_eq rfl | exact MLe.of_eq rfl | exact Dle.i (by omega) | exact Dle.i (by simp only [Int.toNat_natCast] at *; omega) | exact Dle.nil | exact Dle.rc Dle.nil | exact Option.some_ne_none _ | exact Or.inl rfl | exact Or.inr trivial | omega | (simp only [Int.toNat_natCast] at *; omega) | (intro _ _ _ _; exact Dle.of_eq rfl) | refine And.intro ?_ ?_), ?_⟩
            | refine Or.inr ⟨_, _, _, Or.inl (hs2), by kernel_rfl, (by repeat' first | exact trivial | exact rfl | kernel_rfl | exact Dle.of_eq rfl | exact MLe.of_eq rfl | exact Dle.i (by omega) | exact Dle.i (by simp only [Int.toNat_natCast] at *; omega) | exact Dle.nil | exact Dle.rc Dle.nil | exact Option.some_ne_none _ | exact Or.inl rfl | exact Or.inr trivial | omega | (simp only [Int.toNat_natCast] at *; omega) | (intro _ _ _ _; exact Dle.of_eq rfl) | refine And.intro ?_ ?_), ?_⟩
            | (refine codeW_cond rfl ?_; first | (refine condW_dec ?_ ?_ <;> intro _ <;> try (exfalso; omega)) | refine condW_not ?_ | (refine condW_bool ?_ ?_ <;> intro _ <;> try (exfalso; omega)))
            | (refine facW_intro ?_; intro _)
            | refine Or.inl ?_
            | ((conv => whnf); first | (refine condW_dec ?_ ?_ <;> intro _ <;> try (exfalso; omega)) | refine condW_not ?_ | (refine condW_bool ?_ ?_ <;> intro _ <;> try (exfalso; omega)) | (refine nbC_t (fun _ => ?_) ?_) | (refine nbC_f ?_ (fun _ => ?_)))
            | refine And.intro (by first | omega | (simp only [Int.toNat_natCast] at *; omega) | (simp only [Nat.reduceAdd, Int.cast_ofNat_Int, true_and, and_true]; omega)  | kernel_rfl) ?_
            | refine RegW.run ?_
            | fail
          all_goals first
            | (exfalso; omega)
            | exact ⟨[(2000, .row 3 n (rwI (srt lt id π a b))), (2001, .cells [.sl ks kb kn kf]), (2002, .cells [.own 2003 1 0 vm]), (2003, .row 22 vm fv), (2004, .cells [.own 2000 1 0 n])], [], rfl, ⟨[], ⟨by kernel_rfl, by kernel_rfl, by kernel_rfl, by kernel_rfl, by kernel_rfl, by kernel_rfl, by kernel_rfl⟩, (by repeat' first | ((intro i' j' hi' hj'; exact Dle.refl _ _)) | exact trivial | exact rfl | kernel_rfl | exact Dle.of_eq rfl | exact MLe.of_eq rfl | exact Dle.i (by omega) | exact Dle.i (by simp only [Int.toNat_natCast] at *; omega) | exact Dle.nil | exact Dle.rc Dle.nil | exact Option.some_ne_none _ | exact Or.inl rfl | exact Or.inr trivial | omega | (simp only [Int.toNat_natCast] at *; omega) | (intro _ _ _ _; exact Dle.of_eq rfl) | refine And.intro ?_ ?_)⟩, rfl⟩
            | trace_state
        · have n2 := n2 c2
          repeat' first
            | refine Or.inr ⟨_, _, _, Or.inl (hrot), by kernel_rfl, (by repeat' first | exact trivial | exact rfl | kernel_rfl | exact Dle.of_eq rfl | exact MLe.of_eq rfl | exact Dle.i (by omega) | exact Dle.i (by simp only [Int.toNat_natCast] at *; omega) | exact Dle.nil | exact Dle.rc Dle.nil | exact Option.some_ne_none _ | exact Or.inl rfl | exact Or.inr trivial | omega | (simp only [Int.toNat_natCast] at *; omega) | (intro _ _ _ _; exact Dle.of_eq rfl) | refine And.intro ?_ ?_), ?_⟩
            | refine Or.inr ⟨_, _, _, Or.inl (hs1), by kernel_rfl, (by repeat' first | exact trivial | exact rfl | kernel_rfl | exact Dle.of_eq rfl | exact MLe.of_eq rfl | exact Dle.i (by omega) | exact Dle.i (by simp only [Int.toNat_natCast] at *; omega) | exact Dle.nil | exact Dle.rc Dle.nil | exact Option.some_ne_none _ | exact Or.inl rfl | exact Or.inr trivial | omega | (simp only [Int.toNat_natCast] at *; omega) | (intro _ _ _ _; exact Dle.of_eq rfl) | refine And.intro ?_ ?_), ?_⟩
            | (refine codeW_cond rfl ?_; first | (refine condW_dec ?_ ?_ <;> intro _ <;> try (exfalso; omega)) | refine condW_not ?_ | (refine condW_bool ?_ ?_ <;> intro _ <;> try (exfalso; omega)))
            | (refine facW_intro ?_; intro _)
            | refine Or.inl ?_
            | ((conv => whnf); first | (refine condW_dec ?_ ?_ <;> intro _ <;> try (exfalso; omega)) | refine condW_not ?_ | (refine condW_bool ?_ ?_ <;> intro _ <;> try (exfalso; omega)) | (refine nbC_t (fun _ => ?_) ?_) | (refine nbC_f ?_ (fun _ => ?_)))
            | refine And.intro (by first | omega | (simp only [Int.toNat_natCast] at *; omega) | (simp only [Nat.reduceAdd, Int.cast_ofNat_Int, true_and, and_true]; omega)  | kernel_rfl) ?_
            | refine RegW.run ?_
            | fail
          all_goals first
            | (exfalso; omega)
            | exact ⟨[(2000, .row 3 n (rwI (srt lt id π a b))), (2001, .cells [.sl ks kb kn kf]), (2002, .cells [.own 2003 1 0 vm]), (2003, .row 22 vm fv), (2004, .cells [.own 2000 1 0 n])], [], rfl, ⟨[], ⟨by kernel_rfl, by kernel_rfl, by kernel_rfl, by kernel_rfl, by kernel_rfl, by kernel_rfl, by kernel_rfl⟩, (by repeat' first | ((intro i' j' hi' hj'; rw [n2]; exact Dle.refl _ _)) | exact trivial | exact rfl | kernel_rfl | exact Dle.of_eq rfl | exact MLe.of_eq rfl | exact Dle.i (by omega) | exact Dle.i (by simp only [Int.toNat_natCast] at *; omega) | exact Dle.nil | exact Dle.rc Dle.nil | exact Option.some_ne_none _ | exact Or.inl rfl | exact Or.inr trivial | omega | (simp only [Int.toNat_natCast] at *; omega) | (intro _ _ _ _; exact Dle.of_eq rfl) | refine And.intro ?_ ?_)⟩, rfl⟩
            | trace_state
      · have n1 := n1 c1
        rw [n1] at hs2 n2
        by_cases c2 : mid < e ∧ e < b
        · have hs2 := hs2 c2.1 c2.2
          repeat' first
            | refine Or.inr ⟨_, _, _, Or.inl (hrot), by kernel_rfl, (by repeat' first | exact trivial | exact rfl | kernel_rfl | exact Dle.of_eq rfl | exact MLe.of_eq rfl | exact Dle.i (by omega) | exact Dle.i (by simp only [Int.toNat_natCast] at *; omega) | exact Dle.nil | exact Dle.rc Dle.nil | exact Option.some_ne_none _ | exact Or.inl rfl | exact Or.inr trivial | omega | (simp only [Int.toNat_natCast] at *; omega) | (intro _ _ _ _; exact Dle.of_eq rfl) | refine And.intro ?_ ?_), ?_⟩
            | refine Or.inr ⟨_, _, _, Or.inl (hs2), by kernel_rfl, (by repeat' first | exact trivial | exact rfl | kernel_rfl | exact Dle.of_eq rfl | exact MLe.of_eq rfl | exact Dle.i (by omega) | exact Dle.i (by simp only [Int.toNat_natCast] at *; omega) | exact Dle.nil | exact Dle.rc Dle.nil | exact Option.some_ne_none _ | exact Or.inl rfl | exact Or.inr trivial | omega | (simp only [Int.toNat_natCast] at *; omega) | (intro _ _ _ _; exact Dle.of_eq rfl) | refine And.intro ?_ ?_), ?_⟩
            | (refine codeW_cond rfl ?_; first | (refine condW_dec ?_ ?_ <;> intro _ <;> try (exfalso; omega)) | refine condW_not ?_ | (refine condW_bool ?_ ?_ <;> intro _ <;> try (exfalso; omega)))
            | (refine facW_intro ?_; intro _)
            | refine Or.inl ?_
            | ((conv => whnf); first | (refine condW_dec ?_ ?_ <;> intro _ <;> try (exfalso; omega)) | refine condW_not ?_ | (refine condW_bool ?_ ?_ <;> intro _ <;> try (exfalso; omega)) | (refine nbC_t (fun _ => ?_) ?_) | (refine nbC_f ?_ (fun _ => ?_)))
            | refine And.intro (by first | omega | (simp only [Int.toNat_natCast] at *; omega) | (simp only [Nat.reduceAdd, Int.cast_ofNat_Int, true_and, and_true]; omega)  | kernel_rfl) ?_
            | refine RegW.run ?_
            | fail
          all_goals first
            | (exfalso; omega)
            | exact ⟨[(2000, .row 3 n (rwI (srt lt id π a b))), (2001, .cells [.sl ks kb kn kf]), (2002, .cells [.own 2003 1 0 vm]), (2003, .row 22 vm fv), (2004, .cells [.own 2000 1 0 n])], [], rfl, ⟨[], ⟨by kernel_rfl, by kernel_rfl, by kernel_rfl, by kernel_rfl, by kernel_rfl, by kernel_rfl, by kernel_rfl⟩, (by repeat' first | ((intro i' j' hi' hj'; exact Dle.refl _ _)) | exact trivial | exact rfl | kernel_rfl | exact Dle.of_eq rfl | exact MLe.of_eq rfl | exact Dle.i (by omega) | exact Dle.i (by simp only [Int.toNat_natCast] at *; omega) | exact Dle.nil | exact Dle.rc Dle.nil | exact Option.some_ne_none _ | exact Or.inl rfl | exact Or.inr trivial | omega | (simp only [Int.toNat_natCast] at *; omega) | (intro _ _ _ _; exact Dle.of_eq rfl) | refine And.intro ?_ ?_)⟩, rfl⟩
            | trace_state
        · have n2 := n2 c2
          repeat' first
            | refine Or.inr ⟨_, _, _, Or.inl (hrot), by kernel_rfl, (by repeat' first | exact trivial | exact rfl | kernel_rfl | exact Dle.of_eq rfl | exact MLe.of_eq rfl | exact Dle.i (by omega) | exact Dle.i (by simp only [Int.toNat_natCast] at *; omega) | exact Dle.nil | exact Dle.rc Dle.nil | exact Option.some_ne_none _ | exact Or.inl rfl | exact Or.inr trivial | omega | (simp only [Int.toNat_natCast] at *; omega) | (intro _ _ _ _; exact Dle.of_eq rfl) | refine And.intro ?_ ?_), ?_⟩
            | (refine codeW_cond rfl ?_; first | (refine condW_dec ?_ ?_ <;> intro _ <;> try (exfalso; omega)) | refine condW_not ?_ | (refine condW_bool ?_ ?_ <;> intro _ <;> try (exfalso; omega)))
            | (refine facW_intro ?_; intro _)
            | refine Or.inl ?_
            | ((conv => whnf); first | (refine condW_dec ?_ ?_ <;> intro _ <;> try (exfalso; omega)) | refine condW_not ?_ | (refine condW_bool ?_ ?_ <;> intro _ <;> try (exfalso; omega)) | (refine nbC_t (fun _ => ?_) ?_) | (refine nbC_f ?_ (fun _ => ?_)))
            | refine And.intro (by first | omega | (simp only [Int.toNat_natCast] at *; omega) | (simp only [Nat.reduceAdd, Int.cast_ofNat_Int, true_and, and_true]; omega)  | kernel_rfl) ?_
            | refine RegW.run ?_
            | fail
          all_goals first
            | (exfalso; omega)
            | exact ⟨[(2000, .row 3 n (rwI (srt lt id π a b))), (2001, .cells [.sl ks kb kn kf]), (2002, .cells [.own 2003 1 0 vm]), (2003, .row 22 vm fv), (2004, .cells [.own 2000 1 0 n])], [], rfl, ⟨[], ⟨by kernel_rfl, by kernel_rfl, by kernel_rfl, by kernel_rfl, by kernel_rfl, by kernel_rfl, by kernel_rfl⟩, (by repeat' first | ((intro i' j' hi' hj'; rw [n2]; exact Dle.refl _ _)) | exact trivial | exact rfl | kernel_rfl | exact Dle.of_eq rfl | exact MLe.of_eq rfl | exact Dle.i (by omega) | exact Dle.i (by simp only [Int.toNat_natCast] at *; omega) | exact Dle.nil | exact Dle.rc Dle.nil | exact Option.some_ne_none _ | exact Or.inl rfl | exact Or.inr trivial | omega | (simp only [Int.toNat_natCast] at *; omega) | (intro _ _ _ _; exact Dle.of_eq rfl) | refine And.intro ?_ ?_)⟩, rfl⟩
            | trace_state
    · have n0 := n0 c0
      rw [n0] at hs1 hs2 n1 n2
      by_cases c1 : a < k.1 ∧ k.1 < mid
      · have hs1 := hs1 c1.1 c1.2
        by_cases c2 : mid < e ∧ e < b
        · have hs2 := hs2 c2.1 c2.2
          repeat' first
            | refine Or.inr ⟨_, _, _, Or.inl (hs1), by kernel_rfl, (by repeat' first | exact trivial | exact rfl | kernel_rfl | exact Dle.of_eq rfl | exact MLe.of_eq rfl | exact Dle.i (by omega) | exact Dle.i (by simp only [Int.toNat_natCast] at *; omega) | exact Dle.nil | exact Dle.rc Dle.nil | exact Option.some_ne_none _ | exact Or.inl rfl | exact Or.inr trivial | omega | (simp only [Int.toNat_natCast] at *; omega) | (intro _ _ _ _; exact Dle.of_eq rfl) | refine And.intro ?_ ?_), ?_⟩
            | refine Or.inr ⟨_, _, _, Or.inl (hs2), by kernel_rfl, (by repeat' first | exact trivial | exact rfl | kernel_rfl | exact Dle.of_eq rfl | exact MLe.of_eq rfl | exact Dle.i (by omega) | exact Dle.i (by simp only [Int.toNat_natCast] at *; omega) | exact Dle.nil | exact Dle.rc Dle.nil | exact Option.some_ne_none _ | exact Or.inl rfl | exact Or.inr trivial | omega | (simp only [Int.toNat_natCast] at *; omega) | (intro _ _ _ _; exact Dle.of_eq rfl) | refine And.intro ?_ ?_), ?_⟩
            | (refine codeW_cond rfl ?_; first | (refine condW_dec ?_ ?_ <;> intro _ <;> try (exfalso; omega)) | refine condW_not ?_ | (refine condW_bool ?_ ?_ <;> intro _ <;> try (exfalso; omega)))
            | (refine facW_intro ?_; intro _)
            | refine Or.inl ?_
            | ((conv => whnf); first | (refine condW_dec ?_ ?_ <;> intro _ <;> try (exfalso; omega)) | refine condW_not ?_ | (refine condW_bool ?_ ?_ <;> intro _ <;> try (exfalso; omega)) | (refine nbC_t (fun _ => ?_) ?_) | (refine nbC_f ?_ (fun _ => ?_)))
            | refine And.intro (by first | omega | (simp only [Int.toNat_natCast] at *; omega) | (simp only [Nat.reduceAdd, Int.cast_ofNat_Int, true_and, and_true]; omega)  | kernel_rfl) ?_
            | refine RegW.run ?_
            | fail
          all_goals first
            | (exfalso; omega)
            | exact ⟨[(2000, .row 3 n (rwI (srt lt id π a b))), (2001, .cells [.sl ks kb kn kf]), (2002, .cells [.own 2003 1 0 vm]), (2003, .row 22 vm fv), (2004, .cells [.own 2000 1 0 n])], [], rfl, ⟨[], ⟨by kernel_rfl, by kernel_rfl, by kernel_rfl, by kernel_rfl, by kernel_rfl, by kernel_rfl, by kernel_rfl⟩, (by repeat' first | ((intro i' j' hi' hj'; exact Dle.refl _ _)) | exact trivial | exact rfl | kernel_rfl | exact Dle.of_eq rfl | exact MLe.of_eq rfl | exact Dle.i (by omega) | exact Dle.i (by simp only [Int.toNat_natCast] at *; omega) | exact Dle.nil | exact Dle.rc Dle.nil | exact Option.some_ne_none _ | exact Or.inl rfl | exact Or.inr trivial | omega | (simp only [Int.toNat_natCast] at *; omega) | (intro _ _ _ _; exact Dle.of_eq rfl) | refine And.intro ?_ ?_)⟩, rfl⟩
            | trace_state
        · have n2 := n2 c2
          repeat' first
            | refine Or.inr ⟨_, _, _, Or.inl (hs1), by kernel_rfl, (by repeat' first | exact trivial | exact rfl | kernel_rfl | exact Dle.of_eq rfl | exact MLe.of_eq rfl | exact Dle.i (by omega) | exact Dle.i (by simp only [Int.toNat_natCast] at *; omega) | exact Dle.nil | exact Dle.rc Dle.nil | exact Option.some_ne_none _ | exact Or.inl rfl | exact Or.inr trivial | omega | (simp only [Int.toNat_natCast] at *; omega) | (intro _ _ _ _; exact Dle.of_eq rfl) | refine And.intro ?_ ?_), ?_⟩
            | (refine codeW_cond rfl ?_; first | (refine condW_dec ?_ ?_ <;> intro _ <;> try (exfalso; omega)) | refine condW_not ?_ | (refine condW_bool ?_ ?_ <;> intro _ <;> try (exfalso; omega)))
            | (refine facW_intro ?_; intro _)
            | refine Or.inl ?_
            | ((conv => whnf); first | (refine condW_dec ?_ ?_ <;> intro _ <;> try (exfalso; omega)) | refine condW_not ?_ | (refine condW_bool ?_ ?_ <;> intro _ <;> try (exfalso; omega)) | (refine nbC_t (fun _ => ?_) ?_) | (refine nbC_f ?_ (fun _ => ?_)))
            | refine And.intro (by first | omega | (simp only [Int.toNat_natCast] at *; omega) | (simp only [Nat.reduceAdd, Int.cast_ofNat_Int, true_and, and_true]; omega)  | kernel_rfl) ?_
            | refine RegW.run ?_
            | fail
          all_goals first
            | (exfalso; omega)
            | exact ⟨[(2000, .row 3 n (rwI (srt lt id π a b))), (2001, .cells [.sl ks kb kn kf]), (2002, .cells [.own 2003 1 0 vm]), (2003, .row 22 vm fv), (2004, .cells [.own 2000 1 0 n])], [], rfl, ⟨[], ⟨by kernel_rfl, by kernel_rfl, by kernel_rfl, by kernel_rfl, by kernel_rfl, by kernel_rfl, by kernel_rfl⟩, (by repeat' first | ((intro i' j' hi' hj'; rw [n2]; exact Dle.refl _ _)) | exact trivial | exact rfl | kernel_rfl | exact Dle.of_eq rfl | exact MLe.of_eq rfl | exact Dle.i (by omega) | exact Dle.i (by simp only [Int.toNat_natCast] at *; omega) | exact Dle.nil | exact Dle.rc Dle.nil | exact Option.some_ne_none _ | exact Or.inl rfl | exact Or.inr trivial | omega | (simp only [Int.toNat_natCast] at *; omega) | (intro _ _ _ _; exact Dle.of_eq rfl) | refine And.intro ?_ ?_)⟩, rfl⟩
            | trace_state
      · have n1 := n1 c1
        rw [n1] at hs2 n2
        by_cases c2 : mid < e ∧ e < b
        · have hs2 := hs2 c2.1 c2.2
          repeat' first
            | refine Or.inr ⟨_, _, _, Or.inl (hs2), by kernel_rfl, (by repeat' first | exact trivial | exact rfl | kernel_rfl | exact Dle.of_eq rfl | exact MLe.of_eq rfl | exact Dle.i (by omega) | exact Dle.i (by simp only [Int.toNat_natCast] at *; omega) | exact Dle.nil | exact Dle.rc Dle.nil | exact Option.some_ne_none _ | exact Or.inl rfl | exact Or.inr trivial | omega | (simp only [Int.toNat_natCast] at *; omega) | (intro _ _ _ _; exact Dle.of_eq rfl) | refine And.intro ?_ ?_), ?_⟩
            | (refine codeW_cond rfl ?_; first | (refine condW_dec ?_ ?_ <;> intro _ <;> try (exfalso; omega)) | refine condW_not ?_ | (refine condW_bool ?_ ?_ <;> intro _ <;> try (exfalso; omega)))
            | (refine facW_intro ?_; intro _)
            | refine Or.inl ?_
            | ((conv => whnf); first | (refine condW_dec ?_ ?_ <;> intro _ <;> try (exfalso; omega)) | refine condW_not ?_ | (refine condW_bool ?_ ?_ <;> intro _ <;> try (exfalso; omega)) | (refine nbC_t (fun _ => ?_) ?_) | (refine nbC_f ?_ (fun _ => ?_)))
            | refine And.intro (by first | omega | (simp only [Int.toNat_natCast] at *; omega) | (simp only [Nat.reduceAdd, Int.cast_ofNat_Int, true_and, and_true]; omega)  | kernel_rfl) ?_
            | refine RegW.run ?_
            | fail
          all_goals first
            | (exfalso; omega)
            | exact ⟨[(2000, .row 3 n (rwI (srt lt id π a b))), (2001, .cells [.sl ks kb kn kf]), (2002, .cells [.own 2003 1 0 vm]), (2003, .row 22 vm fv), (2004, .cells [.own 2000 1 0 n])], [], rfl, ⟨[], ⟨by kernel_rfl, by kernel_rfl, by kernel_rfl, by kernel_rfl, by kernel_rfl, by kernel_rfl, by kernel_rfl⟩, (by repeat' first | ((intro i' j' hi' hj'; exact Dle.refl _ _)) | exact trivial | exact rfl | kernel_rfl | exact Dle.of_eq rfl | exact MLe.of_eq rfl | exact Dle.i (by omega) | exact Dle.i (by simp only [Int.toNat_natCast] at *; omega) | exact Dle.nil | exact Dle.rc Dle.nil | exact Option.some_ne_none _ | exact Or.inl rfl | exact Or.inr trivial | omega | (simp only [Int.toNat_natCast] at *; omega) | (intro _ _ _ _; exact Dle.of_eq rfl) | refine And.intro ?_ ?_)⟩, rfl⟩
            | trace_state
        · have n2 := n2 c2
          repeat' first
            | (refine codeW_cond rfl ?_; first | (refine condW_dec ?_ ?_ <;> intro _ <;> try (exfalso; omega)) | refine condW_not ?_ | (refine condW_bool ?_ ?_ <;> intro _ <;> try (exfalso; omega)))
            | (refine facW_intro ?_; intro _)
            | refine Or.inl ?_
            | ((conv => whnf); first | (refine condW_dec ?_ ?_ <;> intro _ <;> try (exfalso; omega)) | refine condW_not ?_ | (refine condW_bool ?_ ?_ <;> intro _ <;> try (exfalso; omega)) | (refine nbC_t (fun _ => ?_) ?_) | (refine nbC_f ?_ (fun _ => ?_)))
            | refine And.intro (by first | omega | (simp only [Int.toNat_natCast] at *; omega) | (simp only [Nat.reduceAdd, Int.cast_ofNat_Int, true_and, and_true]; omega)  | kernel_rfl) ?_
            | refine RegW.run ?_
            | fail
          all_goals first
            | (exfalso; omega)
            | exact ⟨[(2000, .row 3 n (rwI (srt lt id π a b))), (2001, .cells [.sl ks kb kn kf]), (2002, .cells [.own 2003 1 0 vm]), (2003, .row 22 vm fv), (2004, .cells [.own 2000 1 0 n])], [], rfl, ⟨[], ⟨by kernel_rfl, by kernel_rfl, by kernel_rfl, by kernel_rfl, by kernel_rfl, by kernel_rfl, by kernel_rfl⟩, (by repeat' first | ((intro i' j' hi' hj'; rw [n2]; exact Dle.refl _ _)) | exact trivial | exact rfl | kernel_rfl | exact Dle.of_eq rfl | exact MLe.of_eq rfl | exact Dle.i (by omega) | exact Dle.i (by simp only [Int.toNat_natCast] at *; omega) | exact Dle.nil | exact Dle.rc Dle.nil | exact Option.some_ne_none _ | exact Or.inl rfl | exact Or.inr trivial | omega | (simp only [Int.toNat_natCast] at *; omega) | (intro _ _ _ _; exact Dle.of_eq rfl) | refine And.intro ?_ ?_)⟩, rfl⟩
            | trace_state
end
end
end sb
end Go.Proofs.YthoemnhigboahaaGreatDoor
namespace Go.Proofs.YthoemnhigboahaaGreatDoor
open Go.RowKit
set_option linter.unusedVariables false
set_option linter.unusedSimpArgs false
namespace sb
section
variable {lt : Nat → Nat → Bool}
section
variable (E : Env)
set_option maxRecDepth 100000
theorem symMerge_l (n vm ks kb kn : Nat) (hn : n ≤ 1000000000) (kf fv : Nat → Nat → DD) (g : Nat) (hw : Wk lt) (hl : LessA E n vm ks kb kn kf fv g lt) : ∀ N, SymA E n vm ks kb kn kf fv g lt N
  | 0 => fun π _ a m b _ h1 h2 _ h3 _ => absurd h3 (by omega)
  | N + 1 => fun π hπ a m b h0 ham hmb hb hN hM => by
    have ih := symMerge_l n vm ks kb kn hn kf fv g hw hl N
    obtain ⟨a, rfl⟩ : ∃ x : Nat, a = x := ⟨a.toNat, by omega⟩
    obtain ⟨b, rfl⟩ : ∃ x : Nat, b = x := ⟨b.toNat, by omega⟩
    obtain ⟨m, rfl⟩ : ∃ x : Nat, m = x := ⟨m.toNat, by omega⟩
    rw [Int.toNat_natCast, Int.toNat_natCast] at *
    rw [Int.toNat_natCast] at hM
    by_cases hc1 : m = a + 1
    · exact symOne E n vm ks kb kn hn kf fv g hw hl π hπ a m b (by omega) (by omega) hb hM hc1
    · by_cases hc2 : b = m + 1
      · exact symLast E n vm ks kb kn hn kf fv g hw hl π hπ a m b (by omega) (by omega) hb hM hc1 hc2
      · by_cases hmm : (a + b) / 2 < m
        · exact symCutL E n vm ks kb kn hn kf fv g hw hl π hπ a m b (by omega) (by omega) hb hM hc1 hc2 N hN ih _ rfl hmm
        · exact symCutR E n vm ks kb kn hn kf fv g hw hl π hπ a m b (by omega) (by omega) hb hM hc1 hc2 N hN ih _ rfl hmm
end
end
end sb
end Go.Proofs.YthoemnhigboahaaGreatDoor
namespace Go.Proofs.YthoemnhigboahaaGreatDoor
set_option linter.unusedVariables false
set_option linter.unusedSimpArgs false
namespace sb
section
variable {lt : Nat → Nat → Bool}
noncomputable def sA (lt : Nat → Nat → Bool) (a b : Nat) : Nat → Nat := srt lt id id a b
theorem sA_spec (hw : Wk lt) (a b : Nat) : Srt lt id (sA lt a b) a b ∧ Prm (sA lt a b) id a b := srt_spec (g := id) hw (fun k l h1 h2 h3 => by show k ≠ l; omega)
theorem sA_in (hw : Wk lt) {a b k : Nat} (h1 : a ≤ k) (h2 : k < b) : a ≤ sA lt a b k ∧ sA lt a b k < b := by
  obtain ⟨l, q1, q2, q3⟩ := (sA_spec hw a b).2.mem h1 h2
  rw [q3]
  exact ⟨q1, q2⟩
theorem srt_patch (hw : Wk lt) {q : Nat → Nat} {a b : Nat} (h : (seg q a (b - a)).Perm (seg id a (b - a))) : srt lt id q a b = fun k => if a ≤ k ∧ k < b then sA lt a b k else q k := by
  obtain ⟨h1, h2⟩ := sA_spec hw a b
  refine srt_eq hw (h1.congr fun k k1 k2 => if_pos ⟨k1, k2⟩) ⟨fun k hk => if_neg hk, ?_⟩
  have e : seg (fun k => if a ≤ k ∧ k < b then sA lt a b k else q k) a (b - a) = seg (sA lt a b) a (b - a) := seg_congr fun i hi => if_pos (by omega)
  rw [e]
  exact h2.2.trans h.symm
noncomputable def blk (lt : Nat → Nat → Bool) (n s k : Nat) : Nat := sA lt (k / s * s) (min (k / s * s + s) n) k
theorem blk_at {n s c a k : Nat} (hs : 0 < s) (hc : a = c * s) (h1 : a ≤ k) (h2 : k < a + s) : blk lt n s k = sA lt a (min (a + s) n) k := by
  have : k / s = c := by
    subst hc
    exact Nat.div_eq_of_lt_le h1 (by rw [Nat.add_mul, Nat.one_mul]; exact h2)
  unfold blk
  rw [this, ← hc]
noncomputable def mix (lt : Nat → Nat → Bool) (n s a k : Nat) : Nat := if k < n then (if k < a then blk lt n (2 * s) k else blk lt n s k) else k
noncomputable def beg (lt : Nat → Nat → Bool) (n a k : Nat) : Nat := if k < a then blk lt n 20 k else k
theorem beg_in (hw : Wk lt) {n a : Nat} (ha : a ≤ n) : ∀ k, k < n → beg lt n a k < n := fun k hk => by
  unfold beg
  split
  · unfold blk
    have := sA_in (lt := lt) hw (a := k / 20 * 20) (b := min (k / 20 * 20 + 20) n) (k := k) (by omega) (by omega)
    omega
  · exact hk
theorem beg_step (hw : Wk lt) {n a c : Nat} (hc : a = c * 20) (hb : a + 20 ≤ n) : srt lt id (beg lt n a) a (a + 20) = beg lt n (a + 20) := by
  rw [srt_patch hw (by rw [seg_congr (q := id) (b := a) (fun i hi => by unfold beg; rw [if_neg (by omega)]; rfl)])]
  funext k
  unfold beg
  by_cases h : a ≤ k ∧ k < a + 20
  · rw [if_pos h, if_pos (by omega), blk_at (by omega) hc h.1 h.2, Nat.min_eq_left hb]
  · rw [if_neg h]
    by_cases h2 : k < a
    · rw [if_pos h2, if_pos (by omega)]
    · rw [if_neg h2, if_neg (by omega)]
theorem beg_last (hw : Wk lt) {n a c : Nat} (hc : a = c * 20) (ha : a ≤ n) (hb : n < a + 20) : srt lt id (beg lt n a) a n = mix lt n 20 0 := by
  rw [srt_patch hw (by rw [seg_congr (q := id) (b := a) (fun i hi => by unfold beg; rw [if_neg (by omega)]; rfl)])]
  funext k
  unfold beg mix
  by_cases h : a ≤ k ∧ k < n
  · rw [if_pos h, if_pos h.2, if_neg (by omega), blk_at (by omega) hc h.1 (by omega), Nat.min_eq_right (by omega)]
  · rw [if_neg h]
    by_cases h2 : k < a
    · rw [if_pos h2, if_pos (by omega), if_neg (by omega)]
    · rw [if_neg h2, if_neg (by omega)]
theorem mix_in (hw : Wk lt) {n s a : Nat} (hs : 0 < s) : ∀ k, k < n → mix lt n s a k < n := fun k hk => by
  have key : ∀ t, 0 < t → blk lt n t k < n := fun t ht => by
    unfold blk
    have h1 := Nat.div_mul_le_self k t
    have h2 : k < k / t * t + t := by
      have := Nat.lt_div_mul_add ht (a := k)
      omega
    have := sA_in (lt := lt) hw (a := k / t * t) (b := min (k / t * t + t) n) (k := k) h1 (by omega)
    omega
  unfold mix
  rw [if_pos hk]
  split
  · exact key _ (by omega)
  · exact key _ hs
theorem mix_mg (hw : Wk lt) {n s a c e : Nat} (hs : 0 < s) (hc : a = c * (2 * s)) (h1 : a + s < e) (h2 : e ≤ a + 2 * s) (h3 : e ≤ n) (h4 : e = a + 2 * s ∨ e = n) : Mg lt (mix lt n s a) a (a + s) e := by
  have e1 : ∀ k, a ≤ k → k < a + s → mix lt n s a k = sA lt a (a + s) k := fun k k1 k2 => by
    unfold mix
    rw [if_pos (by omega), if_neg (by omega), blk_at (c := 2 * c) hs (by rw [hc, Nat.mul_comm 2 c, Nat.mul_assoc]) k1 k2, Nat.min_eq_left (by omega)]
  have e2 : ∀ k, a + s ≤ k → k < e → mix lt n s a k = sA lt (a + s) e k := fun k k1 k2 => by
    unfold mix
    rw [if_pos (by omega), if_neg (by omega), blk_at (c := 2 * c + 1) hs (by rw [hc, Nat.add_mul, Nat.mul_comm 2 c, Nat.mul_assoc, Nat.one_mul]) k1 (by omega), show min (a + s + s) n = e by omega]
  refine ⟨(sA_spec hw a (a + s)).1.congr e1, (sA_spec hw (a + s) e).1.congr e2, fun x y x1 x2 y1 y2 => ?_⟩
  rw [e1 x x1 x2, e2 y y1 y2]
  have := sA_in (lt := lt) hw x1 x2
  have := sA_in (lt := lt) hw y1 y2
  omega
theorem mix_perm (hw : Wk lt) {n s a c e : Nat} (hs : 0 < s) (hc : a = c * (2 * s)) (h1 : a + s < e) (h2 : e ≤ a + 2 * s) (h3 : e ≤ n) (h4 : e = a + 2 * s ∨ e = n) : (seg (mix lt n s a) a (e - a)).Perm (seg id a (e - a)) := by
  have e1 : ∀ k, a ≤ k → k < a + s → mix lt n s a k = sA lt a (a + s) k := fun k k1 k2 => by
    unfold mix
    rw [if_pos (by omega), if_neg (by omega), blk_at (c := 2 * c) hs (by rw [hc, Nat.mul_comm 2 c, Nat.mul_assoc]) k1 k2, Nat.min_eq_left (by omega)]
  have e2 : ∀ k, a + s ≤ k → k < e → mix lt n s a k = sA lt (a + s) e k := fun k k1 k2 => by
    unfold mix
    rw [if_pos (by omega), if_neg (by omega), blk_at (c := 2 * c + 1) hs (by rw [hc, Nat.add_mul, Nat.mul_comm 2 c, Nat.mul_assoc, Nat.one_mul]) k1 (by omega), show min (a + s + s) n = e by omega]
  rw [show e - a = s + (e - (a + s)) by omega, seg_add, seg_add]
  refine List.Perm.append ?_ ?_
  · rw [seg_congr (q := sA lt a (a + s)) (b := a) (fun i hi => e1 _ (by omega) (by omega))]
    have := (sA_spec (lt := lt) hw a (a + s)).2.2
    rwa [show a + s - a = s by omega] at this
  · rw [seg_congr (q := sA lt (a + s) e) (b := a + s) (fun i hi => e2 _ (by omega) (by omega))]
    exact (sA_spec (lt := lt) hw (a + s) e).2.2
theorem mix_step (hw : Wk lt) {n s a c : Nat} (hs : 0 < s) (hc : a = c * (2 * s)) (h3 : a + 2 * s ≤ n) : srt lt id (mix lt n s a) a (a + 2 * s) = mix lt n s (a + 2 * s) := by
  rw [srt_patch hw (mix_perm hw hs hc (by omega) (Nat.le_refl _) h3 (.inl rfl))]
  funext k
  unfold mix
  by_cases h : a ≤ k ∧ k < a + 2 * s
  · rw [if_pos h, if_pos (by omega), if_pos (by omega), blk_at (by omega) hc h.1 h.2, Nat.min_eq_left h3]
  · rw [if_neg h]
    by_cases hn : k < n
    · rw [if_pos hn, if_pos hn]
      by_cases h2 : k < a
      · rw [if_pos h2, if_pos (by omega)]
      · rw [if_neg h2, if_neg (by omega)]
    · rw [if_neg hn, if_neg hn]
theorem mix_last (hw : Wk lt) {n s a c : Nat} (hs : 0 < s) (hc : a = c * (2 * s)) (h1 : a + s < n) (h3 : n < a + 2 * s) : srt lt id (mix lt n s a) a n = mix lt n (2 * s) 0 := by
  rw [srt_patch hw (mix_perm hw hs hc h1 (by omega) (Nat.le_refl _) (.inr rfl))]
  funext k
  unfold mix
  by_cases h : a ≤ k ∧ k < n
  · rw [if_pos h, if_pos (by omega), if_neg (by omega), blk_at (by omega) hc h.1 (by omega), Nat.min_eq_right (by omega)]
  · rw [if_neg h]
    by_cases hn : k < n
    · rw [if_pos hn, if_pos hn, if_pos (by omega), if_neg (by omega)]
    · rw [if_neg hn, if_neg hn]
theorem mix_none {n s a c : Nat} (hs : 0 < s) (hc : a = c * (2 * s)) (h1 : n ≤ a + s) (ha : a ≤ n) : mix lt n s a = mix lt n (2 * s) 0 := by
  funext k
  unfold mix
  by_cases hn : k < n
  · rw [if_pos hn, if_pos hn, if_neg (by omega : ¬ k < 0)]
    by_cases h2 : k < a
    · rw [if_pos h2]
    · rw [if_neg h2, blk_at (c := 2 * c) hs (by rw [hc, Nat.mul_comm 2 c, Nat.mul_assoc]) (by omega : a ≤ k) (by omega), blk_at (by omega) hc (by omega : a ≤ k) (by omega), show min (a + s) n = min (a + 2 * s) n by omega]
  · rw [if_neg hn, if_neg hn]
theorem mix_end (hw : Wk lt) {n s : Nat} (hs : 0 < s) (h : n ≤ s) : mix lt n s 0 = sA lt 0 n := by
  funext k
  unfold mix
  by_cases hn : k < n
  · rw [if_pos hn, if_neg (by omega), blk_at (c := 0) hs (by omega : 0 = 0 * s) (Nat.zero_le _) (by omega), show min (0 + s) n = n by omega]
  · rw [if_neg hn, (sA_spec hw 0 n).2.1 k (by omega)]
    rfl
end
end sb
end Go.Proofs.YthoemnhigboahaaGreatDoor
