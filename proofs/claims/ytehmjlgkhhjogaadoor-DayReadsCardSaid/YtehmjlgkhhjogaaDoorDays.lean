/-
  The program's and the reference's small functions on days: what each computes.
-/
import Derived.Test.YtehmjlgkhhjogaaDoorRows
import Derived.Test.YtehmjlgkhhjogaaDoorL2
import Derived.Test.YtehmjlgkhhjogaaDoorCal
import Derived.WalkLawsBesides
namespace Go.Proofs.YtehmjlgkhhjogaaDoor.days
open Go.RowKit Go.Proofs.YtehmjlgkhhjogaaDoor.cal
set_option linter.unusedVariables false

theorem ret_int {k : IntKind} {a b : Int} (h : a = b) : Ending.returned (.int k a) = .returned (.int k b) := by rw [h]
theorem ret_bool {a b : Bool} (h : a = b) : Ending.returned (.bool a) = .returned (.bool b) := by rw [h]

theorem lp1 {y : Int} (h1 : y % 4 = 0) (h2 : y % 100 = 0) : (y % 400 == 0) = lpB y := by
  unfold lpB
  rw [Bool.eq_iff_iff]
  simp [h1, h2]
theorem lp2 {y : Int} (h1 : y % 4 = 0) (h2 : ¬ y % 100 = 0) : true = lpB y := by simp [lpB, h1, h2]
theorem lp3 {y : Int} (h1 : ¬ y % 4 = 0) : false = lpB y := by simp [lpB, h1]

theorem leap_any (y : Int) (w : World) (h0 : 0 ≤ y) : Calls Tryd.prog 103 #[.int .i64 y] w fun e w' => e = .returned (.bool (lpB y)) ∧ w = w' := by
  go_enter Tryd.func103, Tryd.ntmps103
  go_wp2
  all_goals go_ret
  all_goals refine ⟨ret_bool ?_, rfl⟩
  all_goals first | exact lp1 ‹_› ‹_› | exact lp2 ‹_› ‹_› | exact lp3 ‹_›

theorem rleap_any (y : Int) (w : World) (h0 : 0 ≤ y) : Calls Tryd.prog 80 #[.int .i64 y] w fun e w' => e = .returned (.bool (lpB y)) ∧ w = w' := by
  go_enter Tryd.func80, Tryd.ntmps80
  go_wp2
  all_goals go_ret
  all_goals refine ⟨ret_bool ?_, rfl⟩
  all_goals first | exact lp1 ‹_› ‹_› | exact lp2 ‹_› ‹_› | exact lp3 ‹_›

theorem monthDays_any (y m : Int) (w : World) (h0 : 0 ≤ y) : Calls Tryd.prog 72 #[.int .i64 y, .int .i64 m] w fun e w' => e = .returned (.int .i64 (md y m)) ∧ w = w' := by
  by_cases h2 : m = 2
  · subst h2
    cases hl : lpB y with
    | true =>
      have H := hide hl; clear hl
      go_enter Tryd.func72, Tryd.ntmps72
      go_wp2_with (go_at_call 103; refine (leap_any y _ h0).mono ?_; rintro e w' ⟨rfl, rfl⟩; rw [H.out])
      go_ret
      exact ⟨ret_int (by simp [md, H.out]), rfl⟩
    | false =>
      have H := hide hl; clear hl
      go_enter Tryd.func72, Tryd.ntmps72
      go_wp2_with (go_at_call 103; refine (leap_any y _ h0).mono ?_; rintro e w' ⟨rfl, rfl⟩; rw [H.out])
      go_ret
      exact ⟨ret_int (by simp [md, H.out]), rfl⟩
  · have h2' : (m == 2) = false := by simpa using h2
    go_enter Tryd.func72, Tryd.ntmps72
    go_wp2
    all_goals go_ret
    all_goals refine ⟨ret_int ?_, rfl⟩
    all_goals simp only [beq_iff_eq, beq_eq_false_iff_ne, ne_eq] at *
    all_goals (unfold md; rw [if_neg h2]; split <;> first | rfl | (exfalso; omega))

theorem before_any (y : Int) (w : World) (h0 : 1 ≤ y) (h1 : y ≤ 1000000) : Calls Tryd.prog 73 #[.int .i64 y] w fun e w' => e = .returned (.int .i64 (bf y)) ∧ w = w' := by
  go_enter Tryd.func73, Tryd.ntmps73
  go_wp2
  go_ret
  exact ⟨ret_int rfl, rfl⟩

theorem badDay_any (n : Int) (w : World) : Calls Tryd.prog 92 #[.int .i64 n] w fun e w' => e = .returned (.bool (decide (n < 0 ∨ 84005 < n))) ∧ w = w' := by
  by_cases h0 : n < 0
  · go_enter Tryd.func92, Tryd.ntmps92
    go_wp2
    go_ret
    exact ⟨ret_bool (by simp [h0]), rfl⟩
  · go_enter Tryd.func92, Tryd.ntmps92
    go_wp2
    go_ret
    exact ⟨ret_bool (by simp; omega), rfl⟩

theorem tdiv_floor (a b : Int) (hb : 0 < b) : a / b = if a.tmod b < 0 then a.tdiv b - 1 else a.tdiv b := by
  rcases (by omega : a < 0 ∨ 0 ≤ a) with h | h
  · obtain ⟨n, rfl⟩ : ∃ n : Nat, a = -(n : Int) := ⟨(-a).toNat, by omega⟩
    rw [Int.neg_tmod, Int.neg_tdiv, Int.tdiv_eq_ediv_of_nonneg (by omega), Int.tmod_eq_emod_of_nonneg (by omega)]
    have h1 := Int.mul_ediv_add_emod (n : Int) b
    have h2 := Int.emod_nonneg (n : Int) (b := b) (by omega)
    have h3 := Int.emod_lt_of_pos (n : Int) hb
    split
    · rename_i h4
      refine (Int.ediv_eq_iff_of_pos hb).2 ⟨?_, ?_⟩
      · rw [Int.sub_mul, Int.neg_mul, Int.mul_comm _ b]; omega
      · rw [Int.sub_mul, Int.neg_mul, Int.mul_comm _ b]; omega
    · rename_i h4
      refine (Int.ediv_eq_iff_of_pos hb).2 ⟨?_, ?_⟩
      · rw [Int.neg_mul, Int.mul_comm _ b]; omega
      · rw [Int.neg_mul, Int.mul_comm _ b]; omega
  · rw [Int.tdiv_eq_ediv_of_nonneg h, Int.tmod_eq_emod_of_nonneg h, if_neg]
    have := Int.emod_nonneg a (b := b) (by omega)
    omega

theorem floor_any (a b : Int) (w : World) (hb0 : 1 ≤ b) (hb1 : b ≤ 1000000) (ha0 : -1000000000000 ≤ a) (ha1 : a ≤ 1000000000000) :
    Calls Tryd.prog 79 #[.int .i64 a, .int .i64 b] w fun e w' => e = .returned (.int .i64 (a / b)) ∧ w = w' := by
  have hf := tdiv_floor a b (by omega)
  have hw : ∀ x : Int, -1000000000000 ≤ x → x ≤ 1000000000000 → wrap64 x = x := fun x h0 h1 => IntWalk.wrap64_in x ⟨by omega, by omega⟩
  go_enter Tryd.func79, Tryd.ntmps79
  go_wp2
  all_goals go_ret
  · have hlt : a.tmod b < 0 := by assumption
    rw [if_pos hlt] at hf
    have h1 : -1000000000000 ≤ a / b := Int.le_ediv_of_mul_le (by omega) (by omega)
    have h2 : a / b ≤ 1000000000000 := Int.ediv_le_of_le_mul (by omega) (by omega)
    exact ⟨ret_int (by show wrap64 (a.tdiv b - 1) = a / b; rw [← hf]; exact hw _ h1 h2), rfl⟩
  · have hlt : 0 ≤ a.tmod b := by assumption
    rw [if_neg (by omega)] at hf
    exact ⟨ret_int hf.symm, rfl⟩
end Go.Proofs.YtehmjlgkhhjogaaDoor.days
