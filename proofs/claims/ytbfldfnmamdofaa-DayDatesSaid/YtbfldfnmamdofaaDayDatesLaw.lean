/-
  DayDates: for every input the law 'mastlaw2.DayDates' returns true, and each argument reads afterwards as before. No condition.
-/
import Derived.Test.YtbfldfnmamdofaaDays7
import Derived.Test.YtbfldfnmamdofaaL1
namespace Go.Proofs.Ytbfldfnmamdofaa.dayDates
open Go.ChangeShapes Go.WideShapes Go.ChangeAt Go.RowKit
open Go.Proofs.Ytbfldfnmamdofaa.days Go.Proofs.Ytbfldfnmamdofaa.cal

theorem isdate (n : Int) (h0 : 0 ≤ n) (h1 : n ≤ 84005) (w : World) : ∃ y m d, Valid y m d ∧ num y m d = n := by
  obtain ⟨e, w', fr, ⟨⟨y, m, d, _, hv, hn⟩, _⟩, _⟩ := date_any n w h0 h1 []
  exact ⟨y, m, d, hv, hn⟩

set_option maxHeartbeats 1000000 in
theorem walk (n : Int) (w : World) :
    Calls Try.prog 10 #[.int .i64 n] w fun e w' => e = .returned (.bool true) ∧ Below w.heap.size w w' := by
  by_cases h : n < 0 ∨ 84005 < n
  · have H1 := hide (fun W => DayString_no n W h)
    have H2 := hide (fun W => Date_no n W h)
    have H3 := hide (fun W => Weekday_no n W h)
    have H4 := hide (fun W => isDay_any n W)
    have hbd := hide (decide_eq_false (show ¬ (0 ≤ n ∧ n ≤ 84005) by omega))
    clear h
    go_enter Try.func10, Try.ntmps10
    go_wp2_with fail
    refine (H1.out _).mono ?_
    rintro e w1 ⟨rfl, rfl⟩
    go_wp2_with fail
    refine (H2.out _).mono ?_
    rintro e w2 ⟨rfl, rfl⟩
    go_wp2_with fail
    refine (H3.out _).mono ?_
    rintro e w2 ⟨rfl, rfl⟩
    go_wp2_with fail
    refine (H4.out _).mono ?_
    rintro e w2 ⟨rfl, rfl⟩
    rw [hbd.out]
    go_wp2
    go_ret
    exact ⟨rfl, Below.refl _ _⟩
  · obtain ⟨y, m, d, hv, hn⟩ := isdate n (by omega) (by omega) w
    have C1 := fun W => DayString_yes y m d W hv
    have C2 := fun W => Date_yes y m d W hv
    have C5 := fun W => dateOfDay_any y m d W hv
    have C6 := fun W => stringOfDay_any y m d W hv
    rw [hn] at C1 C2 C5 C6
    have H1 := hide C1
    have H2 := hide C2
    have H3 := hide (fun W => Weekday_yes n W (by omega) (by omega))
    have H4 := hide (fun W => isDay_any n W)
    have H5 := hide C5
    have H6 := hide C6
    have H7 := hide (fun W => weekdayOf_any n W (by omega) (by omega))
    have hbd := hide (decide_eq_true (show (0 ≤ n ∧ n ≤ 84005) by omega))
    clear C1 C2 C5 C6 hv hn h
    go_enter Try.func10, Try.ntmps10
    go_wp2_with fail
    refine (H1.out _).mono ?_
    rintro e w1 ⟨rfl, hb1⟩
    go_wp2_with fail
    refine (H2.out _).mono ?_
    rintro e w2 ⟨rfl, rfl⟩
    go_wp2_with fail
    refine (H3.out _).mono ?_
    rintro e w2 ⟨rfl, rfl⟩
    go_wp2_with fail
    refine (H4.out _).mono ?_
    rintro e w2 ⟨rfl, rfl⟩
    rw [hbd.out]
    go_wp2_with fail
    refine (H5.out _).mono ?_
    rintro e w2 ⟨rfl, rfl⟩
    go_wp2_with fail
    refine (H6.out _).mono ?_
    rintro e w2 ⟨rfl, hb2⟩
    go_wp2_with fail
    refine (H7.out _).mono ?_
    rintro e w3 ⟨rfl, rfl⟩
    go_wp2
    go_ret
    exact ⟨rfl, hb1.trans (hb2.mono hb1.size)⟩

theorem own : ownKnob Try.prog.godebug = none := by kernel_rfl
theorem laidOut : laidOutB Try.prog = true := by kernel_rfl

set_option maxRecDepth 100000 in
theorem lifted (os : Os) (started : os.Started) (H : Type) (enc : TypeId × Value → H) :
    ReturnsInHanded {} Try.checked os 10 .any (Rows.dayDatesSpec.pre6 enc Try.prog Try.f10 Rows.dayDatesRow.domain false) (Rows.dayDatesSpec.post enc Try.prog Try.f10 false true false false) := by
  refine returnsInHanded_of_change (C := Try.checked) own started (by kernel_rfl) Try.func10
    (ChangeSpec.witness6 (enc := enc) (C := Try.checked) false ⟨#[], #[.int .i64 0], []⟩ 8 (by kernel_rfl) (by kernel_rfl) (by kernel_rfl) (by kernel_rfl)) ?_
  intro W base args ds gs before hval0 hW _ _
  have hval : ∀ (j : Nat) t v, Try.f10.params[j]? = some t → args[j]? = some v → Value.okWide Try.prog W .any base t v := hval0
  have hW' := hW
  obtain ⟨p, q, hA0, hV, rfl, hfz, hnd⟩ := hW
  have hA : DataW.TrodAll enc Try.prog W 0 (fun _ => true) true Try.f10.params.toList args.toList ds p := hA0
  rw [Try.params10] at hA hval
  obtain ⟨v0, vs0, d0, ds0, p0, q0, hargs, rfl, rfl, h0, r0⟩ := trodAll_cons hA
  obtain ⟨rfl, rfl, rfl⟩ := trodAll_nil r0
  obtain rfl : args = #[v0] := by cases args; simp_all
  obtain ⟨a0, rfl, _, _, w0⟩ := open_int Try.underlying3 (hval 0 3 v0 rfl rfl) h0
  refine (walk a0 W).mono fun e W' ⟨he, hg⟩ => ?_
  subst he
  exact ⟨_, rfl, law_post laidOut (by kernel_rfl) (by kernel_rfl) Try.underlying4 rfl (fun ds h => by rw [Try.params10] at h; obtain ⟨_, rfl⟩ := ds_one h; rfl) hW' hg⟩

theorem over : Rows.dayDatesRow.holds Try.pinned (OpenSpec.ofChange Rows.dayDatesSpec) :=
  OpenClaim.holds_of_wide 10 Try.f10 rfl rfl rfl rfl rfl rfl rfl ⟨rfl, rfl, rfl, rfl, rfl⟩ rfl rfl rfl rfl rfl (by kernel_rfl) Try.func10 (by kernel_rfl)
    (of_decide_eq_true (by kernel_rfl)) (by unfold Func.isWrapper; first | (rw [if_pos (by decide +kernel)]; kernel_rfl) | (rw [if_neg (by decide +kernel)]; exact ⟨rfl, rfl⟩))
    (fun os started H enc _ => lifted os started H enc)

/-- The statement. -/
theorem proved : Rows.DayDatesSaid :=
  over
#print axioms proved
end Go.Proofs.Ytbfldfnmamdofaa.dayDates
