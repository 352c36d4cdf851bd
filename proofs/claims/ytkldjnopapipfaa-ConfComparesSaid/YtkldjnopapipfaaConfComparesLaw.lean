/-
  ConfCompares: for all values a and b, conf.Compare(a, b) is the reference's CompareOf(a, b).
-/
import Derived.Test.YtkldjnopapipfaaCompareOf
import Derived.Test.YtkldjnopapipfaaL1
namespace Go.Proofs.Ytkldjnopapipfaa.confCompares
open Go.RowKit Go.WideShapes Go.ChangeShapes Go.ChangeAt
attribute [local go_sem ↓] Go.wp_at_zero Go.wp_at_succ
set_option linter.unusedVariables false

theorem keep12 {w w' : World} {a0 a1 a2 a3 a4 a5 a6 a7 a8 a9 a10 a11 : Addr} {v0 v1 v2 v3 v4 v5 v6 v7 v8 v9 v10 v11 : Value} (hb : Below w.heap.size w w') (h : w.cell? a0 = some v0 ∧ w.cell? a1 = some v1 ∧ w.cell? a2 = some v2 ∧ w.cell? a3 = some v3 ∧ w.cell? a4 = some v4 ∧ w.cell? a5 = some v5 ∧ w.cell? a6 = some v6 ∧ w.cell? a7 = some v7 ∧ w.cell? a8 = some v8 ∧ w.cell? a9 = some v9 ∧ w.cell? a10 = some v10 ∧ w.cell? a11 = some v11) :
    w'.cell? a0 = some v0 ∧ w'.cell? a1 = some v1 ∧ w'.cell? a2 = some v2 ∧ w'.cell? a3 = some v3 ∧ w'.cell? a4 = some v4 ∧ w'.cell? a5 = some v5 ∧ w'.cell? a6 = some v6 ∧ w'.cell? a7 = some v7 ∧ w'.cell? a8 = some v8 ∧ w'.cell? a9 = some v9 ∧ w'.cell? a10 = some v10 ∧ w'.cell? a11 = some v11 := by
  obtain ⟨h0, h1, h2, h3, h4, h5, h6, h7, h8, h9, h10, h11⟩ := h
  exact ⟨keepc hb h0, keepc hb h1, keepc hb h2, keepc hb h3, keepc hb h4, keepc hb h5, keepc hb h6, keepc hb h7, keepc hb h8, keepc hb h9, keepc hb h10, keepc hb h11⟩
set_option maxHeartbeats 2000000 in
set_option maxRecDepth 100000 in
theorem walk (N M : Nat) (x y : Val) (w : World) (hx : VR w N x) (hy : VR w M y) :
    Calls Try.prog 6 #[x.val, y.val] w fun e w' => e = .returned (.bool true) ∧ Below w.heap.size w w' := by
  obtain ⟨r, hr⟩ : ∃ r, r = cmpN N x y := ⟨_, rfl⟩
  have C1 := hide (fun (W : World) (hb : Below w.heap.size w W) => compare_any N x y M W (hx.keep hb) (hy.keep hb))
  have C2 := hide (fun (W : World) (hb : Below w.heap.size w W) => compareOf_any N x y M W (hx.keep hb) (hy.keep hb))
  rw [← hr] at C1 C2
  clear hr hx hy
  obtain ⟨xk, xb, xi, xt, xA, xn, xc, xA', xn', xc', xI, xK⟩ := x
  obtain ⟨yk, yb, yi, yt, yA, yn, yc, yA', yn', yc', yI, yK⟩ := y
  have D1 : Hid (∀ (W : World), Below w.heap.size w W → Calls Try.prog 18 #[.agg #[.int .i64 xk, .bool xb, .int .i64 xi, .string xt, .slice xA xn xc, .slice xA' xn' xc'], .agg #[.int .i64 yk, .bool yb, .int .i64 yi, .string yt, .slice yA yn yc, .slice yA' yn' yc']] W (CmpPost r W)) := C1
  have D2 : Hid (∀ (W : World), Below w.heap.size w W → Calls Try.prog 19 #[.agg #[.int .i64 xk, .bool xb, .int .i64 xi, .string xt, .slice xA xn xc, .slice xA' xn' xc'], .agg #[.int .i64 yk, .bool yb, .int .i64 yi, .string yt, .slice yA yn yc, .slice yA' yn' yc']] W (CmpPost r W)) := C2
  clear C1 C2
  show Calls Try.prog 6 #[.agg #[.int .i64 xk, .bool xb, .int .i64 xi, .string xt, .slice xA xn xc, .slice xA' xn' xc'], .agg #[.int .i64 yk, .bool yb, .int .i64 yi, .string yt, .slice yA yn yc, .slice yA' yn' yc']] w _
  go_enter Try.func6, Try.ntmps6
  go_wp2_with fail
  go_region_held3 (fun w' => w'.cell? ⟨w.heap.size, 0, none⟩ = some (.int .i64 xk) ∧ w'.cell? ⟨w.heap.size, 1, none⟩ = some (.bool xb) ∧ w'.cell? ⟨w.heap.size, 2, none⟩ = some (.int .i64 xi) ∧ w'.cell? ⟨w.heap.size, 3, none⟩ = some (.string xt) ∧ w'.cell? ⟨w.heap.size, 4, none⟩ = some (.slice xA xn xc) ∧ w'.cell? ⟨w.heap.size, 5, none⟩ = some (.slice xA' xn' xc') ∧ w'.cell? ⟨w.heap.size + 1, 0, none⟩ = some (.int .i64 yk) ∧ w'.cell? ⟨w.heap.size + 1, 1, none⟩ = some (.bool yb) ∧ w'.cell? ⟨w.heap.size + 1, 2, none⟩ = some (.int .i64 yi) ∧ w'.cell? ⟨w.heap.size + 1, 3, none⟩ = some (.string yt) ∧ w'.cell? ⟨w.heap.size + 1, 4, none⟩ = some (.slice yA yn yc) ∧ w'.cell? ⟨w.heap.size + 1, 5, none⟩ = some (.slice yA' yn' yc')) (first | go_keep | exact keep12 hb2 (by assumption) | exact keep12 hb (by assumption))
    (first
      | (go_at_call 18; refine (D1.out _ (by (repeat' (first | exact Below.refl _ _ | refine Below.alloc ?_ ?_ _ | refine Below.drew ?_ | (simp; done) | (simp; omega))))).mono ?_; rintro e w1 ⟨rfl, hb⟩)
      | (go_at_call 19; refine (D2.out _ (by first | exact Below.trans (by (repeat' (first | exact Below.refl _ _ | refine Below.alloc ?_ ?_ _ | refine Below.drew ?_ | (simp; done) | (simp; omega)))) (hb.mono (by simp; omega)) | exact Below.drew (Below.trans (by (repeat' (first | exact Below.refl _ _ | refine Below.alloc ?_ ?_ _ | refine Below.drew ?_ | (simp; done) | (simp; omega)))) (hb.mono (by simp; omega))))).mono ?_; rintro e w2 ⟨rfl, hb2⟩))
  rename_i hS
  clear hS
  have hX : Below w.heap.size w w1 := Below.trans (by (repeat' (first | exact Below.refl _ _ | refine Below.alloc ?_ ?_ _ | refine Below.drew ?_ | (simp; done) | (simp; omega)))) (hb.mono (by simp; omega))
  go_wp2_with fail
  go_ret
  exact ⟨rfl, hX.trans (hb2.mono hX.size)⟩

set_option maxRecDepth 100000 in
theorem val_arg {H : Type} {enc : TypeId × Value → H} {W : World} {r : Reach} {base : Nat} {v : Value} (hok : Value.okWide Try.prog W r base 43 v) (h : Rdg enc Try.prog W 43 v.cells.toList) :
    ∃ (N : Nat) (x : Val), v = x.val ∧ VR W N x := by
  obtain ⟨cs, rfl, _⟩ := okWide_struct Try.underlying43 hok
  obtain ⟨fu, hfu⟩ := h.fuel
  obtain ⟨x, hx, hv⟩ := val_open fu _ hfu
  refine ⟨fu, x, ?_, hv⟩
  have h1 : cs.toList = x.cells := hx
  show Value.agg cs = Value.agg x.cells.toArray
  rw [← h1]


theorem own : ownKnob Try.prog.godebug = none := by kernel_rfl
theorem laidOut : laidOutB Try.prog = true := by kernel_rfl

set_option maxRecDepth 100000 in
theorem lifted (os : Os) (started : os.Started) (H : Type) (enc : TypeId × Value → H) :
    ReturnsInHanded {} Try.checked os 6 .any (Rows.confComparesSpec.pre6 enc Try.prog Try.f6 Rows.confComparesRow.domain false) (Rows.confComparesSpec.post enc Try.prog Try.f6 false true false false) := by
  refine returnsInHanded_of_change_sized (C := Try.checked) own started (by kernel_rfl) Try.func6
    (ChangeSpec.witness6 (enc := enc) (C := Try.checked) false ⟨#[], #[.agg #[.int .i64 0, .bool false, .int .i64 0, .string ⟨#[]⟩, .slice none 0 0, .slice none 0 0], .agg #[.int .i64 0, .bool false, .int .i64 0, .string ⟨#[]⟩, .slice none 0 0, .slice none 0 0]], []⟩ 8 (by kernel_rfl) (by kernel_rfl) (by kernel_rfl) (by kernel_rfl)) ?_
  intro W base args ds gs before hval0 hW _ hsz0 _
  have hval : ∀ (j : Nat) t v, Try.f6.params[j]? = some t → args[j]? = some v → Value.okWide Try.prog W .any base t v := hval0
  have hW' := hW
  obtain ⟨p, q, hA0, hV, rfl, hfz, hnd⟩ := hW
  have hA : DataW.TrodAll enc Try.prog W 0 (fun _ => true) true Try.f6.params.toList args.toList ds p := hA0
  rw [Try.params6] at hA hval
  obtain ⟨v0, vs0, d0, ds0, p0, q0, hargs, rfl, rfl, h0, r0⟩ := trodAll_cons hA
  obtain ⟨v1, vs1, d1, ds1, p1, q1, rfl, rfl, rfl, h1, r1⟩ := trodAll_cons r0
  obtain ⟨rfl, rfl, rfl⟩ := trodAll_nil r1
  obtain rfl : args = #[v0, v1] := by cases args; simp_all
  obtain ⟨N0, x0, rfl, w0⟩ := val_arg (hval 0 43 v0 rfl rfl) (rdg_param hsz0 0 (t := 43) (by rw [Try.params6]; rfl) rfl h0)
  obtain ⟨N1, x1, rfl, w1⟩ := val_arg (hval 1 43 v1 rfl rfl) (rdg_param hsz0 1 (t := 43) (by rw [Try.params6]; rfl) rfl h1)
  refine (walk N0 N1 x0 x1 W w0 w1).mono fun e W' ⟨he, hg⟩ => ?_
  subst he
  exact ⟨_, rfl, law_post laidOut (by kernel_rfl) (by kernel_rfl) Try.underlying4 rfl (fun ds h => by rw [Try.params6] at h; obtain ⟨_, _, rfl⟩ := ds_two h; rfl) hW' hg⟩

theorem over : Rows.confComparesRow.holds Try.pinned (OpenSpec.ofChange Rows.confComparesSpec) :=
  OpenClaim.holds_of_wide 6 Try.f6 rfl rfl rfl rfl rfl rfl rfl ⟨rfl, rfl, rfl, rfl, rfl⟩ rfl rfl rfl rfl rfl (by kernel_rfl) Try.func6 (by kernel_rfl)
    (of_decide_eq_true (by kernel_rfl)) (by unfold Func.isWrapper; first | (rw [if_pos (by decide +kernel)]; kernel_rfl) | (rw [if_neg (by decide +kernel)]; exact ⟨rfl, rfl⟩))
    (fun os started H enc _ => lifted os started H enc)

/-- The statement. -/
theorem proved : Rows.ConfComparesSaid :=
  over
#print axioms proved
end Go.Proofs.Ytkldjnopapipfaa.confCompares
