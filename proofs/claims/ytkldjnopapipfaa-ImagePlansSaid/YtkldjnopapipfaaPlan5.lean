/-
  The reference: what it answers where it plans.
-/
import Derived.Test.YtkldjnopapipfaaPlan4
namespace Go.Proofs.Ytkldjnopapipfaa.plan
open Go.RowKit
set_option linter.unusedVariables false

set_option maxHeartbeats 2000000 in
set_option maxRecDepth 100000 in
theorem planOf_wide (W H b : Int) (w : World) (h1 : 1 ≤ W ∧ W ≤ 64) (h2 : 1 ≤ H ∧ H ≤ 64) (h3 : 1 ≤ b ∧ b ≤ 64) :
    Calls Try.prog 10 #[.int .i64 W, .int .i64 H, .agg #[.int .i64 3, .int .i64 b, .int .i64 0]] w (PlanPost (cut 0 0 W H (mn b W) (mx (rq (H * mn b W) W))) 0 w) := by
  obtain ⟨m, hm⟩ : ∃ m, m = mn b W := ⟨_, rfl⟩
  have hmb : 1 ≤ m ∧ m ≤ 64 := by rw [hm]; unfold mn; split <;> omega
  have p2 := mul_b h2 hmb
  rw [← hm]
  have HM := hide (And.intro hm True.intro)
  clear hm
  by_cases hx : 1 < rq (H * m) W
  · rw [show mx (rq (H * m) W) = rq (H * m) W from if_pos hx]
    go_enter Try.func10, Try.ntmps10
    go_wp2
    go_quiet (fail)
    go_wp2
    go_quiet (fail)
    rw [show (if W < b then W else b) = m from HM.out.1.symm]
    go_wp2_with (first | (go_at_call 32; refine (rrounded_any _ _ _ (by omega) (by omega)).mono ?_; rintro e w1 ⟨rfl, rfl⟩) | go_in)
    exact bodyPost_ret (v := .tuple #[cut 0 0 W H m (rq (H * m) W), .int .i64 0]) (by simp [results, Try.results10, go_sem, cut]) rfl ⟨rfl, by (repeat' (first | (with_reducible exact Below.refl _ _) | (with_reducible refine Below.alloc ?_ ?_ _) | (with_reducible refine Below.setCell ?_ ?_ _) | (with_reducible refine below_drewN ?_ _) | omega | (simp; done) | (simp; omega)))⟩
  · rw [show mx (rq (H * m) W) = 1 from if_neg hx]
    go_enter Try.func10, Try.ntmps10
    go_wp2
    go_quiet (fail)
    go_wp2
    go_quiet (fail)
    rw [show (if W < b then W else b) = m from HM.out.1.symm]
    go_wp2_with (first | (go_at_call 32; refine (rrounded_any _ _ _ (by omega) (by omega)).mono ?_; rintro e w1 ⟨rfl, rfl⟩) | go_in)
    exact bodyPost_ret (v := .tuple #[cut 0 0 W H m 1, .int .i64 0]) (by simp [results, Try.results10, go_sem, cut]) rfl ⟨rfl, by (repeat' (first | (with_reducible exact Below.refl _ _) | (with_reducible refine Below.alloc ?_ ?_ _) | (with_reducible refine Below.setCell ?_ ?_ _) | (with_reducible refine below_drewN ?_ _) | omega | (simp; done) | (simp; omega)))⟩

set_option maxHeartbeats 2000000 in
set_option maxRecDepth 100000 in
theorem planOf_high (W H c : Int) (w : World) (h1 : 1 ≤ W ∧ W ≤ 64) (h2 : 1 ≤ H ∧ H ≤ 64) (h4 : 1 ≤ c ∧ c ≤ 64) :
    Calls Try.prog 10 #[.int .i64 W, .int .i64 H, .agg #[.int .i64 4, .int .i64 0, .int .i64 c]] w (PlanPost (cut 0 0 W H (mx (rq (W * mn c H) H)) (mn c H)) 0 w) := by
  obtain ⟨k, hk⟩ : ∃ k, k = mn c H := ⟨_, rfl⟩
  have hkb : 1 ≤ k ∧ k ≤ 64 := by rw [hk]; unfold mn; split <;> omega
  have p1 := mul_b h1 hkb
  rw [← hk]
  have HM := hide (And.intro True.intro hk)
  clear hk
  by_cases hx : 1 < rq (W * k) H
  · rw [show mx (rq (W * k) H) = rq (W * k) H from if_pos hx]
    go_enter Try.func10, Try.ntmps10
    go_wp2
    go_quiet (fail)
    go_wp2
    go_quiet (fail)
    rw [show (if H < c then H else c) = k from HM.out.2.symm]
    go_wp2_with (first | (go_at_call 32; refine (rrounded_any _ _ _ (by omega) (by omega)).mono ?_; rintro e w1 ⟨rfl, rfl⟩) | go_in)
    exact bodyPost_ret (v := .tuple #[cut 0 0 W H (rq (W * k) H) k, .int .i64 0]) (by simp [results, Try.results10, go_sem, cut]) rfl ⟨rfl, by (repeat' (first | (with_reducible exact Below.refl _ _) | (with_reducible refine Below.alloc ?_ ?_ _) | (with_reducible refine Below.setCell ?_ ?_ _) | (with_reducible refine below_drewN ?_ _) | omega | (simp; done) | (simp; omega)))⟩
  · rw [show mx (rq (W * k) H) = 1 from if_neg hx]
    go_enter Try.func10, Try.ntmps10
    go_wp2
    go_quiet (fail)
    go_wp2
    go_quiet (fail)
    rw [show (if H < c then H else c) = k from HM.out.2.symm]
    go_wp2_with (first | (go_at_call 32; refine (rrounded_any _ _ _ (by omega) (by omega)).mono ?_; rintro e w1 ⟨rfl, rfl⟩) | go_in)
    exact bodyPost_ret (v := .tuple #[cut 0 0 W H 1 k, .int .i64 0]) (by simp [results, Try.results10, go_sem, cut]) rfl ⟨rfl, by (repeat' (first | (with_reducible exact Below.refl _ _) | (with_reducible refine Below.alloc ?_ ?_ _) | (with_reducible refine Below.setCell ?_ ?_ _) | (with_reducible refine below_drewN ?_ _) | omega | (simp; done) | (simp; omega)))⟩

set_option maxHeartbeats 2000000 in
set_option maxRecDepth 100000 in
theorem planOf_fitw (W H b c : Int) (w : World) (h1 : 1 ≤ W ∧ W ≤ 64) (h2 : 1 ≤ H ∧ H ≤ 64) (h3 : 1 ≤ b ∧ b ≤ 64) (h4 : 1 ≤ c ∧ c ≤ 64) (hle : mx (rq (H * mn b W) W) ≤ mn c H) :
    Calls Try.prog 10 #[.int .i64 W, .int .i64 H, .agg #[.int .i64 1, .int .i64 b, .int .i64 c]] w (PlanPost (cut 0 0 W H (mn b W) (mx (rq (H * mn b W) W))) 0 w) := by
  obtain ⟨m, hm⟩ : ∃ m, m = mn b W := ⟨_, rfl⟩
  have hmb : 1 ≤ m ∧ m ≤ 64 := by rw [hm]; unfold mn; split <;> omega
  have p2 := mul_b h2 hmb
  obtain ⟨k, hk⟩ : ∃ k, k = mn c H := ⟨_, rfl⟩
  have hkb : 1 ≤ k ∧ k ≤ 64 := by rw [hk]; unfold mn; split <;> omega
  have p1 := mul_b h1 hkb
  rw [← hm] at hle ⊢
  rw [← hk] at hle
  have HM := hide (And.intro hm hk)
  clear hm hk
  by_cases hx : 1 < rq (H * m) W
  · rw [show mx (rq (H * m) W) = rq (H * m) W from if_pos hx]
    rw [show mx (rq (H * m) W) = rq (H * m) W from if_pos hx] at hle
    go_enter Try.func10, Try.ntmps10
    go_wp2
    go_quiet (fail)
    go_wp2
    go_quiet (fail)
    rw [show (if W < b then W else b) = m from HM.out.1.symm]
    rw [show (if H < c then H else c) = k from HM.out.2.symm]
    go_wp2_with (first | (go_at_call 32; refine (rrounded_any _ _ _ (by omega) (by omega)).mono ?_; rintro e w1 ⟨rfl, rfl⟩) | go_in)
    exact bodyPost_ret (v := .tuple #[cut 0 0 W H m (rq (H * m) W), .int .i64 0]) (by simp [results, Try.results10, go_sem, cut]) rfl ⟨rfl, by (repeat' (first | (with_reducible exact Below.refl _ _) | (with_reducible refine Below.alloc ?_ ?_ _) | (with_reducible refine Below.setCell ?_ ?_ _) | (with_reducible refine below_drewN ?_ _) | omega | (simp; done) | (simp; omega)))⟩
  · rw [show mx (rq (H * m) W) = 1 from if_neg hx]
    rw [show mx (rq (H * m) W) = 1 from if_neg hx] at hle
    go_enter Try.func10, Try.ntmps10
    go_wp2
    go_quiet (fail)
    go_wp2
    go_quiet (fail)
    rw [show (if W < b then W else b) = m from HM.out.1.symm]
    rw [show (if H < c then H else c) = k from HM.out.2.symm]
    go_wp2_with (first | (go_at_call 32; refine (rrounded_any _ _ _ (by omega) (by omega)).mono ?_; rintro e w1 ⟨rfl, rfl⟩) | go_in)
    exact bodyPost_ret (v := .tuple #[cut 0 0 W H m 1, .int .i64 0]) (by simp [results, Try.results10, go_sem, cut]) rfl ⟨rfl, by (repeat' (first | (with_reducible exact Below.refl _ _) | (with_reducible refine Below.alloc ?_ ?_ _) | (with_reducible refine Below.setCell ?_ ?_ _) | (with_reducible refine below_drewN ?_ _) | omega | (simp; done) | (simp; omega)))⟩

set_option maxHeartbeats 2000000 in
set_option maxRecDepth 100000 in
theorem planOf_fith (W H b c : Int) (w : World) (h1 : 1 ≤ W ∧ W ≤ 64) (h2 : 1 ≤ H ∧ H ≤ 64) (h3 : 1 ≤ b ∧ b ≤ 64) (h4 : 1 ≤ c ∧ c ≤ 64) (hle : ¬ mx (rq (H * mn b W) W) ≤ mn c H) :
    Calls Try.prog 10 #[.int .i64 W, .int .i64 H, .agg #[.int .i64 1, .int .i64 b, .int .i64 c]] w (PlanPost (cut 0 0 W H (mx (rq (W * mn c H) H)) (mn c H)) 0 w) := by
  obtain ⟨m, hm⟩ : ∃ m, m = mn b W := ⟨_, rfl⟩
  have hmb : 1 ≤ m ∧ m ≤ 64 := by rw [hm]; unfold mn; split <;> omega
  have p2 := mul_b h2 hmb
  obtain ⟨k, hk⟩ : ∃ k, k = mn c H := ⟨_, rfl⟩
  have hkb : 1 ≤ k ∧ k ≤ 64 := by rw [hk]; unfold mn; split <;> omega
  have p1 := mul_b h1 hkb
  rw [← hm] at hle
  rw [← hk] at hle ⊢
  have HM := hide (And.intro hm hk)
  clear hm hk
  by_cases hy : 1 < rq (W * k) H
  · rw [show mx (rq (W * k) H) = rq (W * k) H from if_pos hy]
    by_cases hx : 1 < rq (H * m) W
    · rw [show mx (rq (H * m) W) = rq (H * m) W from if_pos hx] at hle
      go_enter Try.func10, Try.ntmps10
      go_wp2
      go_quiet (fail)
      go_wp2
      go_quiet (fail)
      rw [show (if W < b then W else b) = m from HM.out.1.symm]
      rw [show (if H < c then H else c) = k from HM.out.2.symm]
      go_wp2_with (first | (go_at_call 32; refine (rrounded_any _ _ _ (by omega) (by omega)).mono ?_; rintro e w1 ⟨rfl, rfl⟩) | go_in)
      exact bodyPost_ret (v := .tuple #[cut 0 0 W H (rq (W * k) H) k, .int .i64 0]) (by simp [results, Try.results10, go_sem, cut]) rfl ⟨rfl, by (repeat' (first | (with_reducible exact Below.refl _ _) | (with_reducible refine Below.alloc ?_ ?_ _) | (with_reducible refine Below.setCell ?_ ?_ _) | (with_reducible refine below_drewN ?_ _) | omega | (simp; done) | (simp; omega)))⟩
    · rw [show mx (rq (H * m) W) = 1 from if_neg hx] at hle
      exact absurd hkb.1 hle
  · rw [show mx (rq (W * k) H) = 1 from if_neg hy]
    by_cases hx : 1 < rq (H * m) W
    · rw [show mx (rq (H * m) W) = rq (H * m) W from if_pos hx] at hle
      go_enter Try.func10, Try.ntmps10
      go_wp2
      go_quiet (fail)
      go_wp2
      go_quiet (fail)
      rw [show (if W < b then W else b) = m from HM.out.1.symm]
      rw [show (if H < c then H else c) = k from HM.out.2.symm]
      go_wp2_with (first | (go_at_call 32; refine (rrounded_any _ _ _ (by omega) (by omega)).mono ?_; rintro e w1 ⟨rfl, rfl⟩) | go_in)
      exact bodyPost_ret (v := .tuple #[cut 0 0 W H 1 k, .int .i64 0]) (by simp [results, Try.results10, go_sem, cut]) rfl ⟨rfl, by (repeat' (first | (with_reducible exact Below.refl _ _) | (with_reducible refine Below.alloc ?_ ?_ _) | (with_reducible refine Below.setCell ?_ ?_ _) | (with_reducible refine below_drewN ?_ _) | omega | (simp; done) | (simp; omega)))⟩
    · rw [show mx (rq (H * m) W) = 1 from if_neg hx] at hle
      exact absurd hkb.1 hle
end Go.Proofs.Ytkldjnopapipfaa.plan
