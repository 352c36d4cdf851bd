/-
  DayMonths: for every input the law 'mastlaw2.DayMonths' returns true, and each argument reads afterwards as before. No condition.
-/
import Derived.Test.YtbfldfnmamdofaaDays5
import Derived.Test.YtbfldfnmamdofaaL1
namespace Go.Proofs.Ytbfldfnmamdofaa.dayMonths
open Go.ChangeShapes Go.WideShapes Go.ChangeAt Go.RowKit
open Go.Proofs.Ytbfldfnmamdofaa.days Go.Proofs.Ytbfldfnmamdofaa.cal

theorem isdate (n : Int) (h0 : 0 ≤ n) (h1 : n ≤ 84005) (w : World) : ∃ y m d, Valid y m d ∧ num y m d = n := by
  obtain ⟨e, w', fr, ⟨⟨y, m, d, _, hv, hn⟩, _⟩, _⟩ := date_any n w h0 h1 []
  exact ⟨y, m, d, hv, hn⟩

theorem walk (n k : Int) (w : World) :
    Calls Try.prog 9 #[.int .i64 n, .int .i64 k] w fun e w' => e = .returned (.bool true) ∧ Below w.heap.size w w' := by
  by_cases h : bad n k
  · have H1 := hide (fun W => addMonths_no n k W h)
    have H2 := hide (fun W => laterOf_no n k W h)
    clear h
    go_enter Try.func9, Try.ntmps9
    go_wp2_with fail
    refine (H1.out _).mono ?_
    rintro e w1 ⟨rfl, rfl⟩
    go_wp2_with fail
    refine (H2.out _).mono ?_
    rintro e w2 ⟨rfl, rfl⟩
    go_wp2
    go_ret
    exact ⟨rfl, Below.refl _ _⟩
  · unfold bad at h
    obtain ⟨y, m, d, hv, hn⟩ := isdate n (by omega) (by omega) w
    obtain ⟨a, b, hab⟩ : ∃ a b, laterV y m d k = (a, b) := ⟨_, _, rfl⟩
    have C1 := fun W => addMonths_yes y m d k W hv (by omega)
    have C2 := fun W => laterOf_yes y m d k W hv (by omega)
    rw [hab, hn] at C1 C2
    have H1 := hide C1
    have H2 := hide C2
    clear C1 C2 hab hv hn h
    go_enter Try.func9, Try.ntmps9
    go_wp2_with fail
    refine (H1.out _).mono ?_
    rintro e w1 ⟨rfl, rfl⟩
    go_wp2_with fail
    refine (H2.out _).mono ?_
    rintro e w2 ⟨rfl, hb⟩
    go_wp2
    go_ret
    exact ⟨rfl, hb⟩

theorem own : ownKnob Try.prog.godebug = none := by kernel_rfl
theorem laidOut : laidOutB Try.prog = true := by kernel_rfl

set_option maxRecDepth 100000 in
theorem lifted (os : Os) (started : os.Started) (H : Type) (enc : TypeId × Value → H) :
    ReturnsInHanded {} Try.checked os 9 .any (Rows.dayMonthsSpec.pre6 enc Try.prog Try.f9 Rows.dayMonthsRow.domain false) (Rows.dayMonthsSpec.post enc Try.prog Try.f9 false true false false) := by
  refine returnsInHanded_of_change (C := Try.checked) own started (by kernel_rfl) Try.func9
    (ChangeSpec.witness6 (enc := enc) (C := Try.checked) false ⟨#[], #[.int .i64 0, .int .i64 0], []⟩ 8 (by kernel_rfl) (by kernel_rfl) (by kernel_rfl) (by kernel_rfl)) ?_
  intro W base args ds gs before hval0 hW _ _
  have hval : ∀ (j : Nat) t v, Try.f9.params[j]? = some t → args[j]? = some v → Value.okWide Try.prog W .any base t v := hval0
  have hW' := hW
  obtain ⟨p, q, hA0, hV, rfl, hfz, hnd⟩ := hW
  have hA : DataW.TrodAll enc Try.prog W 0 (fun _ => true) true Try.f9.params.toList args.toList ds p := hA0
  rw [Try.params9] at hA hval
  obtain ⟨v0, vs0, d0, ds0, p0, q0, hargs, rfl, rfl, h0, r0⟩ := trodAll_cons hA
  obtain ⟨v1, vs1, d1, ds1, p1, q1, rfl, rfl, rfl, h1, r1⟩ := trodAll_cons r0
  obtain ⟨rfl, rfl, rfl⟩ := trodAll_nil r1
  obtain rfl : args = #[v0, v1] := by cases args; simp_all
  obtain ⟨a0, rfl, _, _, w0⟩ := open_int Try.underlying3 (hval 0 3 v0 rfl rfl) h0
  obtain ⟨a1, rfl, _, _, w1⟩ := open_int Try.underlying3 (hval 1 3 v1 rfl rfl) h1
  refine (walk a0 a1 W).mono fun e W' ⟨he, hg⟩ => ?_
  subst he
  exact ⟨_, rfl, law_post laidOut (by kernel_rfl) (by kernel_rfl) Try.underlying4 rfl (fun ds h => by rw [Try.params9] at h; obtain ⟨_, _, rfl⟩ := ds_two h; rfl) hW' hg⟩

theorem over : Rows.dayMonthsRow.holds Try.pinned (OpenSpec.ofChange Rows.dayMonthsSpec) :=
  OpenClaim.holds_of_wide 9 Try.f9 rfl rfl rfl rfl rfl rfl rfl ⟨rfl, rfl, rfl, rfl, rfl⟩ rfl rfl rfl rfl rfl (by kernel_rfl) Try.func9 (by kernel_rfl)
    (of_decide_eq_true (by kernel_rfl)) (by unfold Func.isWrapper; first | (rw [if_pos (by decide +kernel)]; kernel_rfl) | (rw [if_neg (by decide +kernel)]; exact ⟨rfl, rfl⟩))
    (fun os started H enc _ => lifted os started H enc)

/-- The statement. -/
theorem proved : Rows.DayMonthsSaid :=
  over
#print axioms proved
end Go.Proofs.Ytbfldfnmamdofaa.dayMonths
