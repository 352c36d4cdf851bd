/-
  ImagePlans: for every input the law 'mastlaw2.ImagePlans' returns true, and each argument reads afterwards as before. No condition.
-/
import Derived.Test.YtkldjnopapipfaaPlan3
import Derived.Test.YtkldjnopapipfaaPlan4
import Derived.Test.YtkldjnopapipfaaPlan5
import Derived.Test.YtkldjnopapipfaaPlan6
import Derived.Test.YtkldjnopapipfaaL1
namespace Go.Proofs.Ytkldjnopapipfaa.plan
open Go.ChangeShapes Go.WideShapes Go.ChangeAt Go.RowKit Go.Joins
set_option linter.unusedVariables false

set_option maxHeartbeats 1000000 in
set_option maxRecDepth 100000 in
theorem law_of (x0 x1 x2 x3 x4 x5 z W H a b c : Int) (w : World)
    (h1 : ∀ w, Calls Try.prog 9 #[.int .i64 W, .int .i64 H, .agg #[.int .i64 a, .int .i64 b, .int .i64 c]] w (PlanPost (cut x0 x1 x2 x3 x4 x5) z w))
    (h2 : ∀ w, Calls Try.prog 10 #[.int .i64 W, .int .i64 H, .agg #[.int .i64 a, .int .i64 b, .int .i64 c]] w (PlanPost (cut x0 x1 x2 x3 x4 x5) z w)) :
    Calls Try.prog 3 #[.int .i64 W, .int .i64 H, .agg #[.int .i64 a, .int .i64 b, .int .i64 c]] w fun e w' => e = .returned (.bool true) ∧ Below w.heap.size w w' := by
  have H1 := hide h1
  have H2 := hide h2
  clear h1 h2
  go_enter Try.func3, Try.ntmps3
  go_wp2_with fail
  refine (H1.out _).mono ?_
  rintro e w1 ⟨he, hb⟩
  unfold cut at he
  subst he
  have q0 : w1.cell? ⟨w.heap.size, 0, none⟩ = some (.int .i64 a) := (hb.cell (p := ⟨w.heap.size, 0, none⟩) (by simp)).trans (by simp [go_sem])
  have q1 : w1.cell? ⟨w.heap.size, 1, none⟩ = some (.int .i64 b) := (hb.cell (p := ⟨w.heap.size, 1, none⟩) (by simp)).trans (by simp [go_sem])
  have q2 : w1.cell? ⟨w.heap.size, 2, none⟩ = some (.int .i64 c) := (hb.cell (p := ⟨w.heap.size, 2, none⟩) (by simp)).trans (by simp [go_sem])
  have hb1 : Below w.heap.size w w1 := ((Below.refl _ _).alloc (Nat.le_refl _) _).trans (hb.mono (by simp))
  have hlt : w.heap.size < w1.heap.size := by have := hb.size; simp at this; omega
  clear hb
  go_wp2_with fail
  refine (H2.out _).mono ?_
  rintro e w2 ⟨he, hb⟩
  unfold cut at he
  subst he
  have p0 : w2.cell? ⟨w1.heap.size, 0, none⟩ = some (.int .i64 x0) := (hb.cell (p := ⟨w1.heap.size, 0, none⟩) (by simp)).trans (by simp [go_sem])
  have p1 : w2.cell? ⟨w1.heap.size, 1, none⟩ = some (.int .i64 x1) := (hb.cell (p := ⟨w1.heap.size, 1, none⟩) (by simp)).trans (by simp [go_sem])
  have p2 : w2.cell? ⟨w1.heap.size, 2, none⟩ = some (.int .i64 x2) := (hb.cell (p := ⟨w1.heap.size, 2, none⟩) (by simp)).trans (by simp [go_sem])
  have p3 : w2.cell? ⟨w1.heap.size, 3, none⟩ = some (.int .i64 x3) := (hb.cell (p := ⟨w1.heap.size, 3, none⟩) (by simp)).trans (by simp [go_sem])
  have p4 : w2.cell? ⟨w1.heap.size, 4, none⟩ = some (.int .i64 x4) := (hb.cell (p := ⟨w1.heap.size, 4, none⟩) (by simp)).trans (by simp [go_sem])
  have p5 : w2.cell? ⟨w1.heap.size, 5, none⟩ = some (.int .i64 x5) := (hb.cell (p := ⟨w1.heap.size, 5, none⟩) (by simp)).trans (by simp [go_sem])
  have hb2 : Below w.heap.size w w2 := (hb1.alloc hb1.size _).trans (hb.mono (by simp; omega))
  have hlt2 : w1.heap.size < w2.heap.size := by have := hb.size; simp at this; omega
  have HB := hide hb2
  have hsz := hb2.size
  clear hb hb1 hb2
  go_wp2
  go_ret
  exact ⟨rfl, HB.out.alloc hsz _⟩

theorem fill_cut (W H m k : Int) : ∃ a b c d e f, fillV W H m k = cut a b c d e f := by
  unfold fillV
  split
  · exact ⟨_, _, _, _, _, _, rfl⟩
  · exact ⟨_, _, _, _, _, _, rfl⟩

theorem walk (W H a b c : Int) (w : World) :
    Calls Try.prog 3 #[.int .i64 W, .int .i64 H, .agg #[.int .i64 a, .int .i64 b, .int .i64 c]] w fun e w' => e = .returned (.bool true) ∧ Below w.heap.size w w' := by
  rcases (by omega : W < 1 ∨ 64 < W ∨ (1 ≤ W ∧ W ≤ 64)) with h | h | hW
  · exact law_of _ _ _ _ _ _ _ W H a b c w (fun w => plan_w0 W H a b c w h) (fun w => planOf_w0 W H a b c w h)
  · exact law_of _ _ _ _ _ _ _ W H a b c w (fun w => plan_w1 W H a b c w h) (fun w => planOf_w1 W H a b c w h)
  rcases (by omega : H < 1 ∨ 64 < H ∨ (1 ≤ H ∧ H ≤ 64)) with h | h | hH
  · exact law_of _ _ _ _ _ _ _ W H a b c w (fun w => plan_h0 W H a b c w hW h) (fun w => planOf_h0 W H a b c w hW h)
  · exact law_of _ _ _ _ _ _ _ W H a b c w (fun w => plan_h1 W H a b c w hW h) (fun w => planOf_h1 W H a b c w hW h)
  rcases (by omega : a < 1 ∨ 4 < a ∨ a = 1 ∨ a = 2 ∨ a = 3 ∨ a = 4) with h | h | rfl | rfl | rfl | rfl
  · exact law_of _ _ _ _ _ _ _ W H a b c w (fun w => plan_a0 W H a b c w hW hH h) (fun w => planOf_a0 W H a b c w hW hH h)
  · exact law_of _ _ _ _ _ _ _ W H a b c w (fun w => plan_a1 W H a b c w hW hH h) (fun w => planOf_a1 W H a b c w hW hH h)
  · rcases (by omega : b < 1 ∨ 64 < b ∨ (1 ≤ b ∧ b ≤ 64)) with h | h | hb
    · exact law_of _ _ _ _ _ _ _ W H 1 b c w (fun w => plan_b01 W H b c w hW hH h) (fun w => planOf_b01 W H b c w hW hH h)
    · exact law_of _ _ _ _ _ _ _ W H 1 b c w (fun w => plan_b11 W H b c w hW hH h) (fun w => planOf_b11 W H b c w hW hH h)
    rcases (by omega : c < 1 ∨ 64 < c ∨ (1 ≤ c ∧ c ≤ 64)) with h | h | hc
    · exact law_of _ _ _ _ _ _ _ W H 1 b c w (fun w => plan_c01 W H b c w hW hH hb h) (fun w => planOf_c01 W H b c w hW hH hb h)
    · exact law_of _ _ _ _ _ _ _ W H 1 b c w (fun w => plan_c11 W H b c w hW hH hb h) (fun w => planOf_c11 W H b c w hW hH hb h)
    by_cases hle : mx (rq (H * mn b W) W) ≤ mn c H
    · exact law_of _ _ _ _ _ _ _ W H 1 b c w (fun w => plan_fitw W H b c w hW hH hb hc hle) (fun w => planOf_fitw W H b c w hW hH hb hc hle)
    · exact law_of _ _ _ _ _ _ _ W H 1 b c w (fun w => plan_fith W H b c w hW hH hb hc hle) (fun w => planOf_fith W H b c w hW hH hb hc hle)
  · rcases (by omega : b < 1 ∨ 64 < b ∨ (1 ≤ b ∧ b ≤ 64)) with h | h | hb
    · exact law_of _ _ _ _ _ _ _ W H 2 b c w (fun w => plan_b02 W H b c w hW hH h) (fun w => planOf_b02 W H b c w hW hH h)
    · exact law_of _ _ _ _ _ _ _ W H 2 b c w (fun w => plan_b12 W H b c w hW hH h) (fun w => planOf_b12 W H b c w hW hH h)
    rcases (by omega : c < 1 ∨ 64 < c ∨ (1 ≤ c ∧ c ≤ 64)) with h | h | hc
    · exact law_of _ _ _ _ _ _ _ W H 2 b c w (fun w => plan_c02 W H b c w hW hH hb h) (fun w => planOf_c02 W H b c w hW hH hb h)
    · exact law_of _ _ _ _ _ _ _ W H 2 b c w (fun w => plan_c12 W H b c w hW hH hb h) (fun w => planOf_c12 W H b c w hW hH hb h)
    obtain ⟨x0, x1, x2, x3, x4, x5, hx⟩ := fill_cut W H (mn b W) (mn c H)
    have C1 := fun w => plan_fill W H b c w hW hH hb hc
    have C2 := fun w => planOf_fill W H b c w hW hH hb hc
    rw [hx] at C1 C2
    exact law_of _ _ _ _ _ _ _ W H 2 b c w C1 C2
  · rcases (by omega : b < 1 ∨ 64 < b ∨ (1 ≤ b ∧ b ≤ 64)) with h | h | hb
    · exact law_of _ _ _ _ _ _ _ W H 3 b c w (fun w => plan_b03 W H b c w hW hH h) (fun w => planOf_b03 W H b c w hW hH h)
    · exact law_of _ _ _ _ _ _ _ W H 3 b c w (fun w => plan_b13 W H b c w hW hH h) (fun w => planOf_b13 W H b c w hW hH h)
    by_cases hc : c = 0
    · subst hc
      exact law_of _ _ _ _ _ _ _ W H 3 b 0 w (fun w => plan_wide W H b w hW hH hb) (fun w => planOf_wide W H b w hW hH hb)
    · have hc' : (c != 0) = true := by rw [bne_iff_ne]; exact hc
      exact law_of _ _ _ _ _ _ _ W H 3 b c w (fun w => plan_z3 W H b c w hW hH hb hc') (fun w => planOf_z3 W H b c w hW hH hb hc')
  · rcases (by omega : c < 1 ∨ 64 < c ∨ (1 ≤ c ∧ c ≤ 64)) with h | h | hc
    · exact law_of _ _ _ _ _ _ _ W H 4 b c w (fun w => plan_c04 W H b c w hW hH h) (fun w => planOf_c04 W H b c w hW hH h)
    · exact law_of _ _ _ _ _ _ _ W H 4 b c w (fun w => plan_c14 W H b c w hW hH h) (fun w => planOf_c14 W H b c w hW hH h)
    by_cases hb : b = 0
    · subst hb
      exact law_of _ _ _ _ _ _ _ W H 4 0 c w (fun w => plan_high W H c w hW hH hc) (fun w => planOf_high W H c w hW hH hc)
    · have hb' : (b != 0) = true := by rw [bne_iff_ne]; exact hb
      exact law_of _ _ _ _ _ _ _ W H 4 b c w (fun w => plan_z4 W H b c w hW hH hc hb') (fun w => planOf_z4 W H b c w hW hH hc hb')

theorem cells_want : Try.prog.cellsOf 23 = 3 := by kernel_rfl
theorem trod_i {H : Type} {enc : TypeId × Value → H} {W : World} {fuel : Nat} {v : Value} {y : DataW H × List MemPlace} (h : DataW.trod enc Try.prog W 0 (fun _ => true) true fuel 3 [v] = some y) : ∃ n : Int, v = .int .i64 n := by
  obtain ⟨n, hc, _⟩ := trod_int1 Try.underlying3 h
  injection hc with hc
  exact ⟨n, hc⟩

theorem own : ownKnob Try.prog.godebug = none := by kernel_rfl
theorem laidOut : laidOutB Try.prog = true := by kernel_rfl

set_option maxRecDepth 100000 in
theorem lifted (os : Os) (started : os.Started) (H : Type) (enc : TypeId × Value → H) :
    ReturnsInHanded {} Try.checked os 3 .any (Rows.imagePlansSpec.pre6 enc Try.prog Try.f3 Rows.imagePlansRow.domain false) (Rows.imagePlansSpec.post enc Try.prog Try.f3 false true false false) := by
  refine returnsInHanded_of_change (C := Try.checked) own started (by kernel_rfl) Try.func3
    (ChangeSpec.witness6 (enc := enc) (C := Try.checked) false ⟨#[], #[.int .i64 0, .int .i64 0, .agg #[.int .i64 0, .int .i64 0, .int .i64 0]], []⟩ 8 (by kernel_rfl) (by kernel_rfl) (by kernel_rfl) (by kernel_rfl)) ?_
  intro W base args ds gs before hval0 hW _ _
  have hval : ∀ (j : Nat) t v, Try.f3.params[j]? = some t → args[j]? = some v → Value.okWide Try.prog W .any base t v := hval0
  have hW' := hW
  obtain ⟨p, q, hA0, hV, rfl, hfz, hnd⟩ := hW
  have hA : DataW.TrodAll enc Try.prog W 0 (fun _ => true) true Try.f3.params.toList args.toList ds p := hA0
  rw [Try.params3] at hA hval
  obtain ⟨v0, vs0, d0, ds0, p0, q0, hargs, rfl, rfl, h0, r0⟩ := trodAll_cons hA
  obtain ⟨v1, vs1, d1, ds1, p1, q1, rfl, rfl, rfl, h1, r1⟩ := trodAll_cons r0
  obtain ⟨v2, vs2, d2, ds2, p2, q2, rfl, rfl, rfl, h2, r2⟩ := trodAll_cons r1
  obtain ⟨rfl, rfl, rfl⟩ := trodAll_nil r2
  obtain rfl : args = #[v0, v1, v2] := by cases args; simp_all
  obtain ⟨a0, rfl, _, _, w0⟩ := open_int Try.underlying3 (hval 0 3 v0 rfl rfl) h0
  obtain ⟨a1, rfl, _, _, w1⟩ := open_int Try.underlying3 (hval 1 3 v1 rfl rfl) h1
  obtain ⟨c0, c1, c2, y0, y1, y2, m, rfl, _, _, g0, g1, g2⟩ := open_agg3 Try.underlying23 (by kernel_rfl) cells_want (hval 2 23 v2 rfl rfl) h2
  obtain ⟨x0, rfl⟩ := trod_i g0
  obtain ⟨x1, rfl⟩ := trod_i g1
  obtain ⟨x2, rfl⟩ := trod_i g2
  refine (walk a0 a1 x0 x1 x2 W).mono fun e W' ⟨he, hg⟩ => ?_
  subst he
  exact ⟨_, rfl, law_post laidOut (by kernel_rfl) (by kernel_rfl) Try.underlying4 rfl (fun ds h => by rw [Try.params3] at h; obtain ⟨_, _, _, rfl⟩ := ds_three h; rfl) hW' hg⟩

theorem over : Rows.imagePlansRow.holds Try.pinned (OpenSpec.ofChange Rows.imagePlansSpec) :=
  OpenClaim.holds_of_wide 3 Try.f3 rfl rfl rfl rfl rfl rfl rfl ⟨rfl, rfl, rfl, rfl, rfl⟩ rfl rfl rfl rfl rfl (by kernel_rfl) Try.func3 (by kernel_rfl)
    (of_decide_eq_true (by kernel_rfl)) (by unfold Func.isWrapper; first | (rw [if_pos (by decide +kernel)]; kernel_rfl) | (rw [if_neg (by decide +kernel)]; exact ⟨rfl, rfl⟩))
    (fun os started H enc _ => lifted os started H enc)

/-- The statement. -/
theorem proved : Rows.ImagePlansSaid :=
  over
#print axioms proved
end Go.Proofs.Ytkldjnopapipfaa.plan
