/-
  The reference's Plan where it fills.
-/
import Derived.Test.YtkldjnopapipfaaPlan2
import Derived.RegionTactic
import Derived.ChangeAlike
namespace Go.Proofs.Ytkldjnopapipfaa.plan
open Go.RowKit
set_option linter.unusedVariables false

set_option maxHeartbeats 2000000 in
set_option maxRecDepth 100000 in
theorem planOf_fill (W H b c : Int) (w : World) (h1 : 1 ≤ W ∧ W ≤ 64) (h2 : 1 ≤ H ∧ H ≤ 64) (h3 : 1 ≤ b ∧ b ≤ 64) (h4 : 1 ≤ c ∧ c ≤ 64) :
    Calls Try.prog 10 #[.int .i64 W, .int .i64 H, .agg #[.int .i64 2, .int .i64 b, .int .i64 c]] w (PlanPost (fillV W H (mn b W) (mn c H)) 0 w) := by
  obtain ⟨m, hm⟩ : ∃ m, m = mn b W := ⟨_, rfl⟩
  have hmb : 1 ≤ m ∧ m ≤ 64 := by rw [hm]; unfold mn; split <;> omega
  have p2 := mul_b h2 hmb
  obtain ⟨k, hk⟩ : ∃ k, k = mn c H := ⟨_, rfl⟩
  have hkb : 1 ≤ k ∧ k ≤ 64 := by rw [hk]; unfold mn; split <;> omega
  have p1 := mul_b h1 hkb
  rw [← hm, ← hk]
  have HM := hide (And.intro hm hk)
  clear hm hk
  by_cases hlt : H * m < W * k
  · have hq : H * m / k < W := Int.ediv_lt_of_lt_mul (by omega) hlt
    have hq0 : 0 ≤ H * m / k := Int.ediv_nonneg (by omega) (by omega)
    have hv : fillV W H m k = cut ((W - mx (H * m / k)) / 2) ((H - H) / 2) (mx (H * m / k)) H m k := if_pos hlt
    by_cases hmx : 1 < H * m / k
    · have hv2 : fillV W H m k = cut ((W - H * m / k) / 2) 0 (H * m / k) H m k := by rw [hv]; unfold mx; rw [if_pos hmx]; simp
      rw [hv2]
      clear hv hv2
      go_enter Try.func10, Try.ntmps10
      go_wp2
      go_quiet (fail)
      go_wp2
      go_quiet (fail)
      rw [show (if W < b then W else b) = m from HM.out.1.symm, show (if H < c then H else c) = k from HM.out.2.symm]
      go_wp2
      go_region
      go_wp2
      exact bodyPost_ret (v := .tuple #[cut ((W - H * m / k) / 2) 0 (H * m / k) H m k, .int .i64 0]) (by simp [results, Try.results10, go_sem, cut]) rfl ⟨rfl, by (repeat' (first | (with_reducible exact Below.refl _ _) | (with_reducible refine Below.alloc ?_ ?_ _) | (with_reducible refine Below.setCell ?_ ?_ _) | (with_reducible refine Below.drew ?_) | (with_reducible refine below_drewN ?_ _) | omega | (simp; done) | (simp; omega)))⟩
    · have hv2 : fillV W H m k = cut ((W - 1) / 2) 0 1 H m k := by rw [hv]; unfold mx; rw [if_neg hmx]; simp
      rw [hv2]
      clear hv hv2
      go_enter Try.func10, Try.ntmps10
      go_wp2
      go_quiet (fail)
      go_wp2
      go_quiet (fail)
      rw [show (if W < b then W else b) = m from HM.out.1.symm, show (if H < c then H else c) = k from HM.out.2.symm]
      go_wp2
      go_region
      go_wp2
      exact bodyPost_ret (v := .tuple #[cut ((W - 1) / 2) 0 1 H m k, .int .i64 0]) (by simp [results, Try.results10, go_sem, cut]) rfl ⟨rfl, by (repeat' (first | (with_reducible exact Below.refl _ _) | (with_reducible refine Below.alloc ?_ ?_ _) | (with_reducible refine Below.setCell ?_ ?_ _) | (with_reducible refine Below.drew ?_) | (with_reducible refine below_drewN ?_ _) | omega | (simp; done) | (simp; omega)))⟩
  · have hq : W * k / m ≤ H := Int.ediv_le_of_le_mul (by omega) (by omega)
    have hq0 : 0 ≤ W * k / m := Int.ediv_nonneg (by omega) (by omega)
    have hv : fillV W H m k = cut ((W - W) / 2) ((H - mx (W * k / m)) / 2) W (mx (W * k / m)) m k := if_neg hlt
    by_cases hmx : 1 < W * k / m
    · have hv2 : fillV W H m k = cut 0 ((H - W * k / m) / 2) W (W * k / m) m k := by rw [hv]; unfold mx; rw [if_pos hmx]; simp
      rw [hv2]
      clear hv hv2
      go_enter Try.func10, Try.ntmps10
      go_wp2
      go_quiet (fail)
      go_wp2
      go_quiet (fail)
      rw [show (if W < b then W else b) = m from HM.out.1.symm, show (if H < c then H else c) = k from HM.out.2.symm]
      go_wp2
      go_region
      go_wp2
      exact bodyPost_ret (v := .tuple #[cut 0 ((H - W * k / m) / 2) W (W * k / m) m k, .int .i64 0]) (by simp [results, Try.results10, go_sem, cut]) rfl ⟨rfl, by (repeat' (first | (with_reducible exact Below.refl _ _) | (with_reducible refine Below.alloc ?_ ?_ _) | (with_reducible refine Below.setCell ?_ ?_ _) | (with_reducible refine Below.drew ?_) | (with_reducible refine below_drewN ?_ _) | omega | (simp; done) | (simp; omega)))⟩
    · have hv2 : fillV W H m k = cut 0 ((H - 1) / 2) W 1 m k := by rw [hv]; unfold mx; rw [if_neg hmx]; simp
      rw [hv2]
      clear hv hv2
      go_enter Try.func10, Try.ntmps10
      go_wp2
      go_quiet (fail)
      go_wp2
      go_quiet (fail)
      rw [show (if W < b then W else b) = m from HM.out.1.symm, show (if H < c then H else c) = k from HM.out.2.symm]
      go_wp2
      go_region
      go_wp2
      exact bodyPost_ret (v := .tuple #[cut 0 ((H - 1) / 2) W 1 m k, .int .i64 0]) (by simp [results, Try.results10, go_sem, cut]) rfl ⟨rfl, by (repeat' (first | (with_reducible exact Below.refl _ _) | (with_reducible refine Below.alloc ?_ ?_ _) | (with_reducible refine Below.setCell ?_ ?_ _) | (with_reducible refine Below.drew ?_) | (with_reducible refine below_drewN ?_ _) | omega | (simp; done) | (simp; omega)))⟩
end Go.Proofs.Ytkldjnopapipfaa.plan
