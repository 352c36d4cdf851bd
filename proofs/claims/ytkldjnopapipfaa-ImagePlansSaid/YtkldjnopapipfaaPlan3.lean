/-
  The reference's Plan: where it refuses.
-/
import Derived.Test.YtkldjnopapipfaaPlan2
import Derived.Handy
namespace Go.Proofs.Ytkldjnopapipfaa.plan
open Go.RowKit
set_option linter.unusedVariables false


set_option maxHeartbeats 1000000 in
set_option maxRecDepth 100000 in
theorem planOf_w0 (W H a b c : Int) (w : World) (h : W < 1) :
    Calls Try.prog 10 #[.int .i64 W, .int .i64 H, .agg #[.int .i64 a, .int .i64 b, .int .i64 c]] w (PlanPost (cut 0 0 0 0 0 0) 2 w) := by
  go_enter Try.func10, Try.ntmps10
  go_wp2
  exact bodyPost_ret (v := .tuple #[cut 0 0 0 0 0 0, .int .i64 2]) (by simp [results, Try.results10, go_sem, cut]) rfl ⟨rfl, by (repeat' (first | (with_reducible exact Below.refl _ _) | (with_reducible refine Below.alloc ?_ ?_ _) | (with_reducible refine Below.setCell ?_ ?_ _) | (with_reducible refine below_drewN ?_ _) | omega | (simp; done) | (simp; omega)))⟩

set_option maxHeartbeats 1000000 in
set_option maxRecDepth 100000 in
theorem planOf_w1 (W H a b c : Int) (w : World) (h : 64 < W) :
    Calls Try.prog 10 #[.int .i64 W, .int .i64 H, .agg #[.int .i64 a, .int .i64 b, .int .i64 c]] w (PlanPost (cut 0 0 0 0 0 0) 2 w) := by
  have hx : 1 ≤ W ∧ ¬ W ≤ 64 := by omega
  have hd : decide (W ≤ 64) = false := decide_eq_false (by omega)
  go_enter Try.func10, Try.ntmps10
  go_wp2
  exact bodyPost_ret (v := .tuple #[cut 0 0 0 0 0 0, .int .i64 2]) (by simp [results, Try.results10, go_sem, cut]) rfl ⟨rfl, by (repeat' (first | (with_reducible exact Below.refl _ _) | (with_reducible refine Below.alloc ?_ ?_ _) | (with_reducible refine Below.setCell ?_ ?_ _) | (with_reducible refine below_drewN ?_ _) | omega | (simp; done) | (simp; omega)))⟩

set_option maxHeartbeats 1000000 in
set_option maxRecDepth 100000 in
theorem planOf_h0 (W H a b c : Int) (w : World) (h1 : 1 ≤ W ∧ W ≤ 64) (h : H < 1) :
    Calls Try.prog 10 #[.int .i64 W, .int .i64 H, .agg #[.int .i64 a, .int .i64 b, .int .i64 c]] w (PlanPost (cut 0 0 0 0 0 0) 2 w) := by
  go_enter Try.func10, Try.ntmps10
  go_wp2
  exact bodyPost_ret (v := .tuple #[cut 0 0 0 0 0 0, .int .i64 2]) (by simp [results, Try.results10, go_sem, cut]) rfl ⟨rfl, by (repeat' (first | (with_reducible exact Below.refl _ _) | (with_reducible refine Below.alloc ?_ ?_ _) | (with_reducible refine Below.setCell ?_ ?_ _) | (with_reducible refine below_drewN ?_ _) | omega | (simp; done) | (simp; omega)))⟩

set_option maxHeartbeats 1000000 in
set_option maxRecDepth 100000 in
theorem planOf_h1 (W H a b c : Int) (w : World) (h1 : 1 ≤ W ∧ W ≤ 64) (h : 64 < H) :
    Calls Try.prog 10 #[.int .i64 W, .int .i64 H, .agg #[.int .i64 a, .int .i64 b, .int .i64 c]] w (PlanPost (cut 0 0 0 0 0 0) 2 w) := by
  have hx : 1 ≤ H ∧ ¬ H ≤ 64 := by omega
  have hd : decide (H ≤ 64) = false := decide_eq_false (by omega)
  go_enter Try.func10, Try.ntmps10
  go_wp2
  exact bodyPost_ret (v := .tuple #[cut 0 0 0 0 0 0, .int .i64 2]) (by simp [results, Try.results10, go_sem, cut]) rfl ⟨rfl, by (repeat' (first | (with_reducible exact Below.refl _ _) | (with_reducible refine Below.alloc ?_ ?_ _) | (with_reducible refine Below.setCell ?_ ?_ _) | (with_reducible refine below_drewN ?_ _) | omega | (simp; done) | (simp; omega)))⟩

set_option maxHeartbeats 1000000 in
set_option maxRecDepth 100000 in
theorem planOf_a0 (W H a b c : Int) (w : World) (h1 : 1 ≤ W ∧ W ≤ 64) (h2 : 1 ≤ H ∧ H ≤ 64) (h : a < 1) :
    Calls Try.prog 10 #[.int .i64 W, .int .i64 H, .agg #[.int .i64 a, .int .i64 b, .int .i64 c]] w (PlanPost (cut 0 0 0 0 0 0) 1 w) := by
  have e4 : (a != 4) = true := by rw [bne_iff_ne]; omega
  have e3 : (a != 3) = true := by rw [bne_iff_ne]; omega
  go_enter Try.func10, Try.ntmps10
  go_wp2
  go_quiet (fail)
  go_wp2
  exact bodyPost_ret (v := .tuple #[cut 0 0 0 0 0 0, .int .i64 1]) (by simp [results, Try.results10, go_sem, cut]) rfl ⟨rfl, by (repeat' (first | (with_reducible exact Below.refl _ _) | (with_reducible refine Below.alloc ?_ ?_ _) | (with_reducible refine Below.setCell ?_ ?_ _) | (with_reducible refine below_drewN ?_ _) | omega | (simp; done) | (simp; omega)))⟩

set_option maxHeartbeats 1000000 in
set_option maxRecDepth 100000 in
theorem planOf_a1 (W H a b c : Int) (w : World) (h1 : 1 ≤ W ∧ W ≤ 64) (h2 : 1 ≤ H ∧ H ≤ 64) (h : 4 < a) :
    Calls Try.prog 10 #[.int .i64 W, .int .i64 H, .agg #[.int .i64 a, .int .i64 b, .int .i64 c]] w (PlanPost (cut 0 0 0 0 0 0) 1 w) := by
  have e4 : (a != 4) = true := by rw [bne_iff_ne]; omega
  have e3 : (a != 3) = true := by rw [bne_iff_ne]; omega
  go_enter Try.func10, Try.ntmps10
  go_wp2
  go_quiet (fail)
  go_wp2
  exact bodyPost_ret (v := .tuple #[cut 0 0 0 0 0 0, .int .i64 1]) (by simp [results, Try.results10, go_sem, cut]) rfl ⟨rfl, by (repeat' (first | (with_reducible exact Below.refl _ _) | (with_reducible refine Below.alloc ?_ ?_ _) | (with_reducible refine Below.setCell ?_ ?_ _) | (with_reducible refine below_drewN ?_ _) | omega | (simp; done) | (simp; omega)))⟩

set_option maxHeartbeats 1000000 in
set_option maxRecDepth 100000 in
theorem planOf_b01 (W H b c : Int) (w : World) (h1 : 1 ≤ W ∧ W ≤ 64) (h2 : 1 ≤ H ∧ H ≤ 64) (h : b < 1) :
    Calls Try.prog 10 #[.int .i64 W, .int .i64 H, .agg #[.int .i64 1, .int .i64 b, .int .i64 c]] w (PlanPost (cut 0 0 0 0 0 0) 2 w) := by
  go_enter Try.func10, Try.ntmps10
  go_wp2
  go_quiet (fail)
  go_wp2
  exact bodyPost_ret (v := .tuple #[cut 0 0 0 0 0 0, .int .i64 2]) (by simp [results, Try.results10, go_sem, cut]) rfl ⟨rfl, by (repeat' (first | (with_reducible exact Below.refl _ _) | (with_reducible refine Below.alloc ?_ ?_ _) | (with_reducible refine Below.setCell ?_ ?_ _) | (with_reducible refine below_drewN ?_ _) | omega | (simp; done) | (simp; omega)))⟩

set_option maxHeartbeats 1000000 in
set_option maxRecDepth 100000 in
theorem planOf_b11 (W H b c : Int) (w : World) (h1 : 1 ≤ W ∧ W ≤ 64) (h2 : 1 ≤ H ∧ H ≤ 64) (h : 64 < b) :
    Calls Try.prog 10 #[.int .i64 W, .int .i64 H, .agg #[.int .i64 1, .int .i64 b, .int .i64 c]] w (PlanPost (cut 0 0 0 0 0 0) 2 w) := by
  have hx : 1 ≤ b ∧ ¬ b ≤ 64 := by omega
  have hd : decide (b ≤ 64) = false := decide_eq_false (by omega)
  go_enter Try.func10, Try.ntmps10
  go_wp2
  go_quiet (fail)
  go_wp2
  exact bodyPost_ret (v := .tuple #[cut 0 0 0 0 0 0, .int .i64 2]) (by simp [results, Try.results10, go_sem, cut]) rfl ⟨rfl, by (repeat' (first | (with_reducible exact Below.refl _ _) | (with_reducible refine Below.alloc ?_ ?_ _) | (with_reducible refine Below.setCell ?_ ?_ _) | (with_reducible refine below_drewN ?_ _) | omega | (simp; done) | (simp; omega)))⟩

set_option maxHeartbeats 1000000 in
set_option maxRecDepth 100000 in
theorem planOf_b02 (W H b c : Int) (w : World) (h1 : 1 ≤ W ∧ W ≤ 64) (h2 : 1 ≤ H ∧ H ≤ 64) (h : b < 1) :
    Calls Try.prog 10 #[.int .i64 W, .int .i64 H, .agg #[.int .i64 2, .int .i64 b, .int .i64 c]] w (PlanPost (cut 0 0 0 0 0 0) 2 w) := by
  go_enter Try.func10, Try.ntmps10
  go_wp2
  go_quiet (fail)
  go_wp2
  exact bodyPost_ret (v := .tuple #[cut 0 0 0 0 0 0, .int .i64 2]) (by simp [results, Try.results10, go_sem, cut]) rfl ⟨rfl, by (repeat' (first | (with_reducible exact Below.refl _ _) | (with_reducible refine Below.alloc ?_ ?_ _) | (with_reducible refine Below.setCell ?_ ?_ _) | (with_reducible refine below_drewN ?_ _) | omega | (simp; done) | (simp; omega)))⟩

set_option maxHeartbeats 1000000 in
set_option maxRecDepth 100000 in
theorem planOf_b12 (W H b c : Int) (w : World) (h1 : 1 ≤ W ∧ W ≤ 64) (h2 : 1 ≤ H ∧ H ≤ 64) (h : 64 < b) :
    Calls Try.prog 10 #[.int .i64 W, .int .i64 H, .agg #[.int .i64 2, .int .i64 b, .int .i64 c]] w (PlanPost (cut 0 0 0 0 0 0) 2 w) := by
  have hx : 1 ≤ b ∧ ¬ b ≤ 64 := by omega
  have hd : decide (b ≤ 64) = false := decide_eq_false (by omega)
  go_enter Try.func10, Try.ntmps10
  go_wp2
  go_quiet (fail)
  go_wp2
  exact bodyPost_ret (v := .tuple #[cut 0 0 0 0 0 0, .int .i64 2]) (by simp [results, Try.results10, go_sem, cut]) rfl ⟨rfl, by (repeat' (first | (with_reducible exact Below.refl _ _) | (with_reducible refine Below.alloc ?_ ?_ _) | (with_reducible refine Below.setCell ?_ ?_ _) | (with_reducible refine below_drewN ?_ _) | omega | (simp; done) | (simp; omega)))⟩

set_option maxHeartbeats 1000000 in
set_option maxRecDepth 100000 in
theorem planOf_b03 (W H b c : Int) (w : World) (h1 : 1 ≤ W ∧ W ≤ 64) (h2 : 1 ≤ H ∧ H ≤ 64) (h : b < 1) :
    Calls Try.prog 10 #[.int .i64 W, .int .i64 H, .agg #[.int .i64 3, .int .i64 b, .int .i64 c]] w (PlanPost (cut 0 0 0 0 0 0) 2 w) := by
  go_enter Try.func10, Try.ntmps10
  go_wp2
  go_quiet (fail)
  go_wp2
  exact bodyPost_ret (v := .tuple #[cut 0 0 0 0 0 0, .int .i64 2]) (by simp [results, Try.results10, go_sem, cut]) rfl ⟨rfl, by (repeat' (first | (with_reducible exact Below.refl _ _) | (with_reducible refine Below.alloc ?_ ?_ _) | (with_reducible refine Below.setCell ?_ ?_ _) | (with_reducible refine below_drewN ?_ _) | omega | (simp; done) | (simp; omega)))⟩

set_option maxHeartbeats 1000000 in
set_option maxRecDepth 100000 in
theorem planOf_b13 (W H b c : Int) (w : World) (h1 : 1 ≤ W ∧ W ≤ 64) (h2 : 1 ≤ H ∧ H ≤ 64) (h : 64 < b) :
    Calls Try.prog 10 #[.int .i64 W, .int .i64 H, .agg #[.int .i64 3, .int .i64 b, .int .i64 c]] w (PlanPost (cut 0 0 0 0 0 0) 2 w) := by
  have hx : 1 ≤ b ∧ ¬ b ≤ 64 := by omega
  have hd : decide (b ≤ 64) = false := decide_eq_false (by omega)
  go_enter Try.func10, Try.ntmps10
  go_wp2
  go_quiet (fail)
  go_wp2
  exact bodyPost_ret (v := .tuple #[cut 0 0 0 0 0 0, .int .i64 2]) (by simp [results, Try.results10, go_sem, cut]) rfl ⟨rfl, by (repeat' (first | (with_reducible exact Below.refl _ _) | (with_reducible refine Below.alloc ?_ ?_ _) | (with_reducible refine Below.setCell ?_ ?_ _) | (with_reducible refine below_drewN ?_ _) | omega | (simp; done) | (simp; omega)))⟩

set_option maxHeartbeats 1000000 in
set_option maxRecDepth 100000 in
theorem planOf_c01 (W H b c : Int) (w : World) (h1 : 1 ≤ W ∧ W ≤ 64) (h2 : 1 ≤ H ∧ H ≤ 64) (h3 : 1 ≤ b ∧ b ≤ 64) (h : c < 1) :
    Calls Try.prog 10 #[.int .i64 W, .int .i64 H, .agg #[.int .i64 1, .int .i64 b, .int .i64 c]] w (PlanPost (cut 0 0 0 0 0 0) 2 w) := by
  go_enter Try.func10, Try.ntmps10
  go_wp2
  go_quiet (fail)
  go_wp2
  exact bodyPost_ret (v := .tuple #[cut 0 0 0 0 0 0, .int .i64 2]) (by simp [results, Try.results10, go_sem, cut]) rfl ⟨rfl, by (repeat' (first | (with_reducible exact Below.refl _ _) | (with_reducible refine Below.alloc ?_ ?_ _) | (with_reducible refine Below.setCell ?_ ?_ _) | (with_reducible refine below_drewN ?_ _) | omega | (simp; done) | (simp; omega)))⟩

set_option maxHeartbeats 1000000 in
set_option maxRecDepth 100000 in
theorem planOf_c11 (W H b c : Int) (w : World) (h1 : 1 ≤ W ∧ W ≤ 64) (h2 : 1 ≤ H ∧ H ≤ 64) (h3 : 1 ≤ b ∧ b ≤ 64) (h : 64 < c) :
    Calls Try.prog 10 #[.int .i64 W, .int .i64 H, .agg #[.int .i64 1, .int .i64 b, .int .i64 c]] w (PlanPost (cut 0 0 0 0 0 0) 2 w) := by
  have hx : 1 ≤ c ∧ ¬ c ≤ 64 := by omega
  have hd : decide (c ≤ 64) = false := decide_eq_false (by omega)
  go_enter Try.func10, Try.ntmps10
  go_wp2
  go_quiet (fail)
  go_wp2
  exact bodyPost_ret (v := .tuple #[cut 0 0 0 0 0 0, .int .i64 2]) (by simp [results, Try.results10, go_sem, cut]) rfl ⟨rfl, by (repeat' (first | (with_reducible exact Below.refl _ _) | (with_reducible refine Below.alloc ?_ ?_ _) | (with_reducible refine Below.setCell ?_ ?_ _) | (with_reducible refine below_drewN ?_ _) | omega | (simp; done) | (simp; omega)))⟩

set_option maxHeartbeats 1000000 in
set_option maxRecDepth 100000 in
theorem planOf_c02 (W H b c : Int) (w : World) (h1 : 1 ≤ W ∧ W ≤ 64) (h2 : 1 ≤ H ∧ H ≤ 64) (h3 : 1 ≤ b ∧ b ≤ 64) (h : c < 1) :
    Calls Try.prog 10 #[.int .i64 W, .int .i64 H, .agg #[.int .i64 2, .int .i64 b, .int .i64 c]] w (PlanPost (cut 0 0 0 0 0 0) 2 w) := by
  go_enter Try.func10, Try.ntmps10
  go_wp2
  go_quiet (fail)
  go_wp2
  exact bodyPost_ret (v := .tuple #[cut 0 0 0 0 0 0, .int .i64 2]) (by simp [results, Try.results10, go_sem, cut]) rfl ⟨rfl, by (repeat' (first | (with_reducible exact Below.refl _ _) | (with_reducible refine Below.alloc ?_ ?_ _) | (with_reducible refine Below.setCell ?_ ?_ _) | (with_reducible refine below_drewN ?_ _) | omega | (simp; done) | (simp; omega)))⟩

set_option maxHeartbeats 1000000 in
set_option maxRecDepth 100000 in
theorem planOf_c12 (W H b c : Int) (w : World) (h1 : 1 ≤ W ∧ W ≤ 64) (h2 : 1 ≤ H ∧ H ≤ 64) (h3 : 1 ≤ b ∧ b ≤ 64) (h : 64 < c) :
    Calls Try.prog 10 #[.int .i64 W, .int .i64 H, .agg #[.int .i64 2, .int .i64 b, .int .i64 c]] w (PlanPost (cut 0 0 0 0 0 0) 2 w) := by
  have hx : 1 ≤ c ∧ ¬ c ≤ 64 := by omega
  have hd : decide (c ≤ 64) = false := decide_eq_false (by omega)
  go_enter Try.func10, Try.ntmps10
  go_wp2
  go_quiet (fail)
  go_wp2
  exact bodyPost_ret (v := .tuple #[cut 0 0 0 0 0 0, .int .i64 2]) (by simp [results, Try.results10, go_sem, cut]) rfl ⟨rfl, by (repeat' (first | (with_reducible exact Below.refl _ _) | (with_reducible refine Below.alloc ?_ ?_ _) | (with_reducible refine Below.setCell ?_ ?_ _) | (with_reducible refine below_drewN ?_ _) | omega | (simp; done) | (simp; omega)))⟩

set_option maxHeartbeats 1000000 in
set_option maxRecDepth 100000 in
theorem planOf_c04 (W H b c : Int) (w : World) (h1 : 1 ≤ W ∧ W ≤ 64) (h2 : 1 ≤ H ∧ H ≤ 64) (h : c < 1) :
    Calls Try.prog 10 #[.int .i64 W, .int .i64 H, .agg #[.int .i64 4, .int .i64 b, .int .i64 c]] w (PlanPost (cut 0 0 0 0 0 0) 2 w) := by
  go_enter Try.func10, Try.ntmps10
  go_wp2
  go_quiet (fail)
  go_wp2
  exact bodyPost_ret (v := .tuple #[cut 0 0 0 0 0 0, .int .i64 2]) (by simp [results, Try.results10, go_sem, cut]) rfl ⟨rfl, by (repeat' (first | (with_reducible exact Below.refl _ _) | (with_reducible refine Below.alloc ?_ ?_ _) | (with_reducible refine Below.setCell ?_ ?_ _) | (with_reducible refine below_drewN ?_ _) | omega | (simp; done) | (simp; omega)))⟩

set_option maxHeartbeats 1000000 in
set_option maxRecDepth 100000 in
theorem planOf_c14 (W H b c : Int) (w : World) (h1 : 1 ≤ W ∧ W ≤ 64) (h2 : 1 ≤ H ∧ H ≤ 64) (h : 64 < c) :
    Calls Try.prog 10 #[.int .i64 W, .int .i64 H, .agg #[.int .i64 4, .int .i64 b, .int .i64 c]] w (PlanPost (cut 0 0 0 0 0 0) 2 w) := by
  have hx : 1 ≤ c ∧ ¬ c ≤ 64 := by omega
  have hd : decide (c ≤ 64) = false := decide_eq_false (by omega)
  go_enter Try.func10, Try.ntmps10
  go_wp2
  go_quiet (fail)
  go_wp2
  exact bodyPost_ret (v := .tuple #[cut 0 0 0 0 0 0, .int .i64 2]) (by simp [results, Try.results10, go_sem, cut]) rfl ⟨rfl, by (repeat' (first | (with_reducible exact Below.refl _ _) | (with_reducible refine Below.alloc ?_ ?_ _) | (with_reducible refine Below.setCell ?_ ?_ _) | (with_reducible refine below_drewN ?_ _) | omega | (simp; done) | (simp; omega)))⟩

set_option maxHeartbeats 1000000 in
set_option maxRecDepth 100000 in
theorem planOf_z4 (W H b c : Int) (w : World) (h1 : 1 ≤ W ∧ W ≤ 64) (h2 : 1 ≤ H ∧ H ≤ 64) (h3 : 1 ≤ c ∧ c ≤ 64) (h : (b != 0) = true) :
    Calls Try.prog 10 #[.int .i64 W, .int .i64 H, .agg #[.int .i64 4, .int .i64 b, .int .i64 c]] w (PlanPost (cut 0 0 0 0 0 0) 1 w) := by
  go_enter Try.func10, Try.ntmps10
  go_wp2
  go_quiet (fail)
  go_wp2
  exact bodyPost_ret (v := .tuple #[cut 0 0 0 0 0 0, .int .i64 1]) (by simp [results, Try.results10, go_sem, cut]) rfl ⟨rfl, by (repeat' (first | (with_reducible exact Below.refl _ _) | (with_reducible refine Below.alloc ?_ ?_ _) | (with_reducible refine Below.setCell ?_ ?_ _) | (with_reducible refine below_drewN ?_ _) | omega | (simp; done) | (simp; omega)))⟩

set_option maxHeartbeats 1000000 in
set_option maxRecDepth 100000 in
theorem planOf_z3 (W H b c : Int) (w : World) (h1 : 1 ≤ W ∧ W ≤ 64) (h2 : 1 ≤ H ∧ H ≤ 64) (h3 : 1 ≤ b ∧ b ≤ 64) (h : (c != 0) = true) :
    Calls Try.prog 10 #[.int .i64 W, .int .i64 H, .agg #[.int .i64 3, .int .i64 b, .int .i64 c]] w (PlanPost (cut 0 0 0 0 0 0) 1 w) := by
  go_enter Try.func10, Try.ntmps10
  go_wp2
  go_quiet (fail)
  go_wp2
  exact bodyPost_ret (v := .tuple #[cut 0 0 0 0 0 0, .int .i64 1]) (by simp [results, Try.results10, go_sem, cut]) rfl ⟨rfl, by (repeat' (first | (with_reducible exact Below.refl _ _) | (with_reducible refine Below.alloc ?_ ?_ _) | (with_reducible refine Below.setCell ?_ ?_ _) | (with_reducible refine below_drewN ?_ _) | omega | (simp; done) | (simp; omega)))⟩
end Go.Proofs.Ytkldjnopapipfaa.plan
