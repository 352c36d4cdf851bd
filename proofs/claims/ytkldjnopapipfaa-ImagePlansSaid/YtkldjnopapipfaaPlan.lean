/-
  asset.Plan: what it answers.
-/
import Derived.Test.YtkldjnopapipfaaRows
import Derived.Test.YtkldjnopapipfaaL3
import Derived.Deep.QuietTactic
import Derived.BigQuiet
import Derived.BigRegion
import Derived.WalkLawsBesides
namespace Go.Proofs.Ytkldjnopapipfaa.plan
open Go.RowKit
set_option linter.unusedVariables false

def side (n : Int) : Prop := 1 ≤ n ∧ n ≤ 64
def cut (a b c d e f : Int) : Value := .agg #[.int .i64 a, .int .i64 b, .int .i64 c, .int .i64 d, .int .i64 e, .int .i64 f]
def want (a b c : Int) : Value := .agg #[.int .i64 a, .int .i64 b, .int .i64 c]

def PlanPost (r : Value) (z : Int) (w : World) (e : Ending) (w' : World) : Prop := e = .returned (.tuple #[r, .int .i64 z]) ∧ Below w.heap.size w w'

/-- A quotient, rounded half up; at least 1. -/
def rq (a b : Int) : Int := (2 * a + b) / (2 * b)
def mx (q : Int) : Int := if 1 < q then q else 1

/-- The part in the middle. -/
def fillV (W H m k : Int) : Value :=
  if H * m < W * k then cut ((W - mx (H * m / k)) / 2) ((H - H) / 2) (mx (H * m / k)) H m k
  else cut ((W - W) / 2) ((H - mx (W * k / m)) / 2) W (mx (W * k / m)) m k

theorem mul_b {a b : Int} (ha : 1 ≤ a ∧ a ≤ 64) (hb : 1 ≤ b ∧ b ≤ 64) : 1 ≤ a * b ∧ a * b ≤ 4096 := by
  have h1 : a * 1 ≤ a * b := Int.mul_le_mul_of_nonneg_left hb.1 (by omega)
  have h2 : a * b ≤ 64 * b := Int.mul_le_mul_of_nonneg_right ha.2 (by omega)
  omega

set_option maxHeartbeats 1000000 in
set_option maxRecDepth 100000 in
theorem filled_any (W H m k : Int) (w : World) (hW : 1 ≤ W ∧ W ≤ 64) (hH : 1 ≤ H ∧ H ≤ 64) (hm : 1 ≤ m ∧ m ≤ 64) (hk : 1 ≤ k ∧ k ≤ 64) :
    Calls Try.prog 29 #[.int .i64 W, .int .i64 H, .int .i64 m, .int .i64 k] w fun e w' => e = .returned (fillV W H m k) ∧ Below w.heap.size w w' := by
  have p1 := mul_b hW hk
  have p2 := mul_b hH hm
  by_cases hlt : H * m < W * k
  · have hq : H * m / k < W := Int.ediv_lt_of_lt_mul (by omega) hlt
    have hq0 : 0 ≤ H * m / k := Int.ediv_nonneg (by omega) (by omega)
    have hv : fillV W H m k = cut ((W - mx (H * m / k)) / 2) ((H - H) / 2) (mx (H * m / k)) H m k := if_pos hlt
    by_cases hmx : 1 < H * m / k
    · have hv2 : fillV W H m k = cut ((W - H * m / k) / 2) 0 (H * m / k) H m k := by rw [hv]; unfold mx; rw [if_pos hmx]; simp
      have HV := hide hv2
      clear hv hv2
      go_enter Try.func29, Try.ntmps29
      go_wp2
      exact bodyPost_ret (v := cut ((W - H * m / k) / 2) 0 (H * m / k) H m k) (by simp [results, Try.results29, go_sem, cut]) rfl ⟨by rw [HV.out], (((Below.refl _ _).alloc (Nat.le_refl _) _).alloc (by simp) _)⟩
    · have hv2 : fillV W H m k = cut ((W - 1) / 2) 0 1 H m k := by rw [hv]; unfold mx; rw [if_neg hmx]; simp
      have HV := hide hv2
      clear hv hv2
      go_enter Try.func29, Try.ntmps29
      go_wp2
      exact bodyPost_ret (v := cut ((W - 1) / 2) 0 1 H m k) (by simp [results, Try.results29, go_sem, cut]) rfl ⟨by rw [HV.out], (((Below.refl _ _).alloc (Nat.le_refl _) _).alloc (by simp) _)⟩
  · have hq : W * k / m ≤ H := Int.ediv_le_of_le_mul (by omega) (by omega)
    have hq0 : 0 ≤ W * k / m := Int.ediv_nonneg (by omega) (by omega)
    have hv : fillV W H m k = cut ((W - W) / 2) ((H - mx (W * k / m)) / 2) W (mx (W * k / m)) m k := if_neg hlt
    by_cases hmx : 1 < W * k / m
    · have hv2 : fillV W H m k = cut 0 ((H - W * k / m) / 2) W (W * k / m) m k := by rw [hv]; unfold mx; rw [if_pos hmx]; simp
      have HV := hide hv2
      clear hv hv2
      go_enter Try.func29, Try.ntmps29
      go_wp2
      exact bodyPost_ret (v := cut 0 ((H - W * k / m) / 2) W (W * k / m) m k) (by simp [results, Try.results29, go_sem, cut]) rfl ⟨by rw [HV.out], (((Below.refl _ _).alloc (Nat.le_refl _) _).alloc (by simp) _)⟩
    · have hv2 : fillV W H m k = cut 0 ((H - 1) / 2) W 1 m k := by rw [hv]; unfold mx; rw [if_neg hmx]; simp
      have HV := hide hv2
      clear hv hv2
      go_enter Try.func29, Try.ntmps29
      go_wp2
      exact bodyPost_ret (v := cut 0 ((H - 1) / 2) W 1 m k) (by simp [results, Try.results29, go_sem, cut]) rfl ⟨by rw [HV.out], (((Below.refl _ _).alloc (Nat.le_refl _) _).alloc (by simp) _)⟩

theorem rounded_any (a b : Int) (w : World) (ha : 0 ≤ a ∧ a ≤ 10000) (hb : 1 ≤ b ∧ b ≤ 64) :
    Calls Try.prog 28 #[.int .i64 a, .int .i64 b] w fun e w' => e = .returned (.int .i64 (mx (rq a b))) ∧ w = w' := by
  go_enter Try.func28, Try.ntmps28
  go_wp2
  all_goals go_ret
  all_goals refine ⟨?_, rfl⟩
  all_goals unfold mx rq
  all_goals split
  all_goals first | rfl | (exfalso; omega)

theorem rrounded_any (a b : Int) (w : World) (ha : 0 ≤ a ∧ a ≤ 10000) (hb : 1 ≤ b ∧ b ≤ 64) :
    Calls Try.prog 32 #[.int .i64 a, .int .i64 b] w fun e w' => e = .returned (.int .i64 (rq a b)) ∧ w = w' := by
  go_enter Try.func32, Try.ntmps32
  go_wp2
  go_ret
  exact ⟨rfl, rfl⟩

end Go.Proofs.Ytkldjnopapipfaa.plan
