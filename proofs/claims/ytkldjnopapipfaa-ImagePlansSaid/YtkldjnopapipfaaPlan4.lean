/-
  asset.Plan: what it answers where it plans.
-/
import Derived.Test.YtkldjnopapipfaaPlan2
namespace Go.Proofs.Ytkldjnopapipfaa.plan
open Go.RowKit
set_option linter.unusedVariables false

theorem cell_set {w : World} {a : Addr} {u : Value} (h : (w.cell? a).isSome = true) : (w.setCell a u).cell? a = some u := by
  cases hc : w.cell? a with
  | none => rw [hc] at h; cases h
  | some v => exact World.cell?_setCell_same _ _ _ hc

theorem fill_form (W H m k : Int) : ∃ a b c d e f, fillV W H m k = .agg #[.int .i64 a, .int .i64 b, .int .i64 c, .int .i64 d, .int .i64 e, .int .i64 f] := by
  unfold fillV cut
  split
  · exact ⟨_, _, _, _, _, _, rfl⟩
  · exact ⟨_, _, _, _, _, _, rfl⟩

set_option maxHeartbeats 2000000 in
set_option maxRecDepth 100000 in
theorem plan_fill (W H b c : Int) (w : World) (h1 : 1 ≤ W ∧ W ≤ 64) (h2 : 1 ≤ H ∧ H ≤ 64) (h3 : 1 ≤ b ∧ b ≤ 64) (h4 : 1 ≤ c ∧ c ≤ 64) :
    Calls Try.prog 9 #[.int .i64 W, .int .i64 H, .agg #[.int .i64 2, .int .i64 b, .int .i64 c]] w (PlanPost (fillV W H (mn b W) (mn c H)) 0 w) := by
  obtain ⟨m, hm⟩ : ∃ m, m = mn b W := ⟨_, rfl⟩
  have hmb : 1 ≤ m ∧ m ≤ 64 := by rw [hm]; unfold mn; split <;> omega
  have p2 := mul_b h2 hmb
  obtain ⟨k, hk⟩ : ∃ k, k = mn c H := ⟨_, rfl⟩
  have hkb : 1 ≤ k ∧ k ≤ 64 := by rw [hk]; unfold mn; split <;> omega
  have p1 := mul_b h1 hkb
  rw [← hm, ← hk]
  obtain ⟨x0, x1, x2, x3, x4, x5, hx⟩ := fill_form W H m k
  have HF := hide (fun W' => filled_any W H m k W' h1 h2 hmb hkb)
  rw [hx] at HF ⊢
  have HM := hide (And.intro hm hk)
  clear hm hk hx
  go_enter Try.func9, Try.ntmps9
  go_wp2
  go_quiet (fail)
  rw [show (if W < b then W else b) = m from HM.out.1.symm, show (if H < c then H else c) = k from HM.out.2.symm]
  go_wp2_with fail
  refine (rounded_any _ _ _ (by omega) h1).mono ?_
  rintro e w1 ⟨rfl, rfl⟩
  go_wp2_with fail
  refine (HF.out _).mono ?_
  rintro e w2 ⟨rfl, hb⟩
  have q0 : w2.cell? ⟨w.heap.size + 1, 0, none⟩ = some (.int .i64 0) := (hb.cell (p := ⟨w.heap.size + 1, 0, none⟩) (by simp)).trans (by simp [go_sem])
  have q1 : w2.cell? ⟨w.heap.size + 1, 1, none⟩ = some (.int .i64 0) := (hb.cell (p := ⟨w.heap.size + 1, 1, none⟩) (by simp)).trans (by simp [go_sem])
  have q2 : w2.cell? ⟨w.heap.size + 1, 2, none⟩ = some (.int .i64 0) := (hb.cell (p := ⟨w.heap.size + 1, 2, none⟩) (by simp)).trans (by simp [go_sem])
  have q3 : w2.cell? ⟨w.heap.size + 1, 3, none⟩ = some (.int .i64 0) := (hb.cell (p := ⟨w.heap.size + 1, 3, none⟩) (by simp)).trans (by simp [go_sem])
  have q4 : w2.cell? ⟨w.heap.size + 1, 4, none⟩ = some (.int .i64 0) := (hb.cell (p := ⟨w.heap.size + 1, 4, none⟩) (by simp)).trans (by simp [go_sem])
  have q5 : w2.cell? ⟨w.heap.size + 1, 5, none⟩ = some (.int .i64 0) := (hb.cell (p := ⟨w.heap.size + 1, 5, none⟩) (by simp)).trans (by simp [go_sem])
  have f0 : w2.frozen? ⟨w.heap.size + 1, 0, none⟩ = false := (hb.frozen (p := ⟨w.heap.size + 1, 0, none⟩) (by simp)).trans (by simp [go_sem])
  have f1 : w2.frozen? ⟨w.heap.size + 1, 1, none⟩ = false := (hb.frozen (p := ⟨w.heap.size + 1, 1, none⟩) (by simp)).trans (by simp [go_sem])
  have f2 : w2.frozen? ⟨w.heap.size + 1, 2, none⟩ = false := (hb.frozen (p := ⟨w.heap.size + 1, 2, none⟩) (by simp)).trans (by simp [go_sem])
  have f3 : w2.frozen? ⟨w.heap.size + 1, 3, none⟩ = false := (hb.frozen (p := ⟨w.heap.size + 1, 3, none⟩) (by simp)).trans (by simp [go_sem])
  have f4 : w2.frozen? ⟨w.heap.size + 1, 4, none⟩ = false := (hb.frozen (p := ⟨w.heap.size + 1, 4, none⟩) (by simp)).trans (by simp [go_sem])
  have f5 : w2.frozen? ⟨w.heap.size + 1, 5, none⟩ = false := (hb.frozen (p := ⟨w.heap.size + 1, 5, none⟩) (by simp)).trans (by simp [go_sem])
  have hbw : Below w.heap.size w w2 := by
    refine Below.trans ?_ (hb.mono (by simp; omega))
    (repeat' (first | (with_reducible exact Below.refl _ _) | (with_reducible refine Below.alloc ?_ ?_ _) | (with_reducible refine Below.setCell ?_ ?_ _) | (with_reducible refine below_drewN ?_ _) | omega | (simp; done) | (simp; omega)))
  have HB := hide hbw
  clear hb hbw
  go_wp2
  refine bodyPost_ret (v := .tuple #[.agg #[.int .i64 x0, .int .i64 x1, .int .i64 x2, .int .i64 x3, .int .i64 x4, .int .i64 x5], .int .i64 0]) (by simp [results, Try.results9, go_sem, cell_set, q0, q1, q2, q3, q4, q5]) rfl ⟨rfl, ?_⟩
  have hbw := HB.out
  exact (((((hbw.setCell (by simp) _).setCell (by simp) _).setCell (by simp) _).setCell (by simp) _).setCell (by simp) _).setCell (by simp) _

set_option maxHeartbeats 2000000 in
set_option maxRecDepth 100000 in
theorem plan_wide (W H b : Int) (w : World) (h1 : 1 ≤ W ∧ W ≤ 64) (h2 : 1 ≤ H ∧ H ≤ 64) (h3 : 1 ≤ b ∧ b ≤ 64) :
    Calls Try.prog 9 #[.int .i64 W, .int .i64 H, .agg #[.int .i64 3, .int .i64 b, .int .i64 0]] w (PlanPost (cut 0 0 W H (mn b W) (mx (rq (H * mn b W) W))) 0 w) := by
  obtain ⟨m, hm⟩ : ∃ m, m = mn b W := ⟨_, rfl⟩
  have hmb : 1 ≤ m ∧ m ≤ 64 := by rw [hm]; unfold mn; split <;> omega
  have p2 := mul_b h2 hmb
  rw [← hm]
  have HM := hide hm
  clear hm
  go_enter Try.func9, Try.ntmps9
  go_wp2
  go_quiet (fail)
  rw [show (if W < b then W else b) = m from HM.out.symm]
  go_wp2_with fail
  refine (rounded_any _ _ _ (by omega) (by omega)).mono ?_
  rintro e w1 ⟨rfl, rfl⟩
  go_wp2
  exact bodyPost_ret (v := .tuple #[cut 0 0 W H m (mx (rq (H * m) W)), .int .i64 0]) (by simp [results, Try.results9, go_sem, cut]) rfl ⟨rfl, by (repeat' (first | (with_reducible exact Below.refl _ _) | (with_reducible refine Below.alloc ?_ ?_ _) | (with_reducible refine Below.setCell ?_ ?_ _) | (with_reducible refine below_drewN ?_ _) | omega | (simp; done) | (simp; omega)))⟩

set_option maxHeartbeats 2000000 in
set_option maxRecDepth 100000 in
theorem plan_high (W H c : Int) (w : World) (h1 : 1 ≤ W ∧ W ≤ 64) (h2 : 1 ≤ H ∧ H ≤ 64) (h4 : 1 ≤ c ∧ c ≤ 64) :
    Calls Try.prog 9 #[.int .i64 W, .int .i64 H, .agg #[.int .i64 4, .int .i64 0, .int .i64 c]] w (PlanPost (cut 0 0 W H (mx (rq (W * mn c H) H)) (mn c H)) 0 w) := by
  obtain ⟨k, hk⟩ : ∃ k, k = mn c H := ⟨_, rfl⟩
  have hkb : 1 ≤ k ∧ k ≤ 64 := by rw [hk]; unfold mn; split <;> omega
  have p1 := mul_b h1 hkb
  rw [← hk]
  have HM := hide hk
  clear hk
  go_enter Try.func9, Try.ntmps9
  go_wp2
  go_quiet (fail)
  rw [show (if H < c then H else c) = k from HM.out.symm]
  go_wp2_with fail
  refine (rounded_any _ _ _ (by omega) (by omega)).mono ?_
  rintro e w1 ⟨rfl, rfl⟩
  go_wp2_with fail
  refine (rounded_any _ _ _ (by omega) (by omega)).mono ?_
  rintro e w1 ⟨rfl, rfl⟩
  go_wp2
  exact bodyPost_ret (v := .tuple #[cut 0 0 W H (mx (rq (W * k) H)) k, .int .i64 0]) (by simp [results, Try.results9, go_sem, cut]) rfl ⟨rfl, by (repeat' (first | (with_reducible exact Below.refl _ _) | (with_reducible refine Below.alloc ?_ ?_ _) | (with_reducible refine Below.setCell ?_ ?_ _) | (with_reducible refine below_drewN ?_ _) | omega | (simp; done) | (simp; omega)))⟩

set_option maxHeartbeats 2000000 in
set_option maxRecDepth 100000 in
theorem plan_fitw (W H b c : Int) (w : World) (h1 : 1 ≤ W ∧ W ≤ 64) (h2 : 1 ≤ H ∧ H ≤ 64) (h3 : 1 ≤ b ∧ b ≤ 64) (h4 : 1 ≤ c ∧ c ≤ 64) (hle : mx (rq (H * mn b W) W) ≤ mn c H) :
    Calls Try.prog 9 #[.int .i64 W, .int .i64 H, .agg #[.int .i64 1, .int .i64 b, .int .i64 c]] w (PlanPost (cut 0 0 W H (mn b W) (mx (rq (H * mn b W) W))) 0 w) := by
  obtain ⟨m, hm⟩ : ∃ m, m = mn b W := ⟨_, rfl⟩
  have hmb : 1 ≤ m ∧ m ≤ 64 := by rw [hm]; unfold mn; split <;> omega
  have p2 := mul_b h2 hmb
  obtain ⟨k, hk⟩ : ∃ k, k = mn c H := ⟨_, rfl⟩
  have hkb : 1 ≤ k ∧ k ≤ 64 := by rw [hk]; unfold mn; split <;> omega
  have p1 := mul_b h1 hkb
  rw [← hm] at hle ⊢
  rw [← hk] at hle
  have HM := hide (And.intro hm hk)
  clear hm hk
  go_enter Try.func9, Try.ntmps9
  go_wp2
  go_quiet (fail)
  rw [show (if W < b then W else b) = m from HM.out.1.symm, show (if H < c then H else c) = k from HM.out.2.symm]
  go_wp2_with fail
  refine (rounded_any _ _ _ (by omega) (by omega)).mono ?_
  rintro e w1 ⟨rfl, rfl⟩
  go_wp2
  exact bodyPost_ret (v := .tuple #[cut 0 0 W H m (mx (rq (H * m) W)), .int .i64 0]) (by simp [results, Try.results9, go_sem, cut]) rfl ⟨rfl, by (repeat' (first | (with_reducible exact Below.refl _ _) | (with_reducible refine Below.alloc ?_ ?_ _) | (with_reducible refine Below.setCell ?_ ?_ _) | (with_reducible refine below_drewN ?_ _) | omega | (simp; done) | (simp; omega)))⟩

set_option maxHeartbeats 2000000 in
set_option maxRecDepth 100000 in
theorem plan_fith (W H b c : Int) (w : World) (h1 : 1 ≤ W ∧ W ≤ 64) (h2 : 1 ≤ H ∧ H ≤ 64) (h3 : 1 ≤ b ∧ b ≤ 64) (h4 : 1 ≤ c ∧ c ≤ 64) (hle : ¬ mx (rq (H * mn b W) W) ≤ mn c H) :
    Calls Try.prog 9 #[.int .i64 W, .int .i64 H, .agg #[.int .i64 1, .int .i64 b, .int .i64 c]] w (PlanPost (cut 0 0 W H (mx (rq (W * mn c H) H)) (mn c H)) 0 w) := by
  obtain ⟨m, hm⟩ : ∃ m, m = mn b W := ⟨_, rfl⟩
  have hmb : 1 ≤ m ∧ m ≤ 64 := by rw [hm]; unfold mn; split <;> omega
  have p2 := mul_b h2 hmb
  obtain ⟨k, hk⟩ : ∃ k, k = mn c H := ⟨_, rfl⟩
  have hkb : 1 ≤ k ∧ k ≤ 64 := by rw [hk]; unfold mn; split <;> omega
  have p1 := mul_b h1 hkb
  rw [← hm] at hle
  rw [← hk] at hle ⊢
  have HM := hide (And.intro hm hk)
  clear hm hk
  go_enter Try.func9, Try.ntmps9
  go_wp2
  go_quiet (fail)
  rw [show (if W < b then W else b) = m from HM.out.1.symm, show (if H < c then H else c) = k from HM.out.2.symm]
  go_wp2_with fail
  refine (rounded_any _ _ _ (by omega) (by omega)).mono ?_
  rintro e w1 ⟨rfl, rfl⟩
  go_wp2_with fail
  refine (rounded_any _ _ _ (by omega) (by omega)).mono ?_
  rintro e w1 ⟨rfl, rfl⟩
  go_wp2
  exact bodyPost_ret (v := .tuple #[cut 0 0 W H (mx (rq (W * k) H)) k, .int .i64 0]) (by simp [results, Try.results9, go_sem, cut]) rfl ⟨rfl, by (repeat' (first | (with_reducible exact Below.refl _ _) | (with_reducible refine Below.alloc ?_ ?_ _) | (with_reducible refine Below.setCell ?_ ?_ _) | (with_reducible refine below_drewN ?_ _) | omega | (simp; done) | (simp; omega)))⟩
end Go.Proofs.Ytkldjnopapipfaa.plan
