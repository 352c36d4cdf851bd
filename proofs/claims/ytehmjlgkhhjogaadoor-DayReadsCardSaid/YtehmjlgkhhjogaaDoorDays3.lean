/-
  The program's dates, and what either side answers of a date.
-/
import Derived.Test.YtehmjlgkhhjogaaDoorDays2
namespace Go.Proofs.YtehmjlgkhhjogaaDoor.days
open Go.RowKit Go.Proofs.YtehmjlgkhhjogaaDoor.cal
set_option linter.unusedVariables false

theorem ret2_int {k : IntKind} {a b : Int} {x : Value} (h : a = b) : Ending.returned (.tuple #[.int k a, x]) = .returned (.tuple #[.int k b, x]) := by rw [h]

theorem cum_range (y : Int) : ∀ k : Nat, 0 ≤ cum y k ∧ cum y k ≤ 31 * k
  | 0 => by simp [cum]
  | k + 1 => by
    have h1 := cum_range y k
    have h2 := md_range y ((k : Int) + 1)
    simp only [cum]
    omega

/-- A date of the years 1970 to 2199. -/
def Valid (y m d : Int) : Prop := 1970 ≤ y ∧ y ≤ 2199 ∧ 1 ≤ m ∧ m ≤ 12 ∧ 1 ≤ d ∧ d ≤ md y m

def DayRel (y m b : Int) (v8 v9 : Value) : Prop := ∃ k : Nat, (k : Int) + 1 ≤ m ∧ v9 = .int .i64 ((k : Int) + 1) ∧ v8 = .int .i64 (b + cum y k)

set_option maxHeartbeats 1000000 in
set_option maxRecDepth 100000 in
theorem dayOf_yes (y m d : Int) (w : World) (h : Valid y m d) :
    Calls Tryd.prog 54 #[.int .i64 y, .int .i64 m, .int .i64 d] w fun e w' => e = .returned (.tuple #[.int .i64 (num y m d), .bool true]) ∧ w = w' := by
  obtain ⟨hy1, hy2, hm1, hm2, hd1, hd2⟩ := h
  have hr := md_range y m
  have hbf : -1000 ≤ bf y ∧ bf y ≤ 100000 := by unfold bf; omega
  go_enter Tryd.func54, Tryd.ntmps54
  go_wp2_with (first | (go_at_call 72; refine (monthDays_any _ _ _ (by omega)).mono ?_; rintro e w' ⟨rfl, rfl⟩) | (go_at_call 73; refine (before_any _ _ (by omega) (by omega)).mono ?_; rintro e w' ⟨rfl, rfl⟩))
  go_loop [8, 9] (DayRel y m (bf y + d - 1)) (fun _ v9 => 100 - (intOf v9).toNat)
  case atStart => exact ⟨0, by omega, rfl, by simp [cum]⟩
  case round =>
    obtain ⟨k, hk, rfl, rfl⟩ := hrel
    have hc := cum_range y k
    have hr2 := md_range y ((k : Int) + 1)
    by_cases hlt : (k : Int) + 1 < m
    · go_wp2_with (go_at_call 72; refine (monthDays_any _ _ _ (by omega)).mono ?_; rintro e w' ⟨rfl, rfl⟩)
      go_round
      case rel => exact ⟨k + 1, by omega, by go_num, by simp only [cum]; go_num⟩
      case measure => simp [intOf]; omega
    · have hkm : (m - 1).toNat = k := by omega
      have HK := hide hkm
      clear hkm
      go_wp2
      go_ret2
      exact ⟨ret2_int (by unfold num; rw [HK.out]; omega), rfl⟩

theorem dayOf_no (y m d : Int) (w : World) (h : ¬ Valid y m d) :
    Calls Tryd.prog 54 #[.int .i64 y, .int .i64 m, .int .i64 d] w fun e w' => e = .returned (.tuple #[.int .i64 0, .bool false]) ∧ w = w' := by
  unfold Valid at h
  by_cases h0 : 1970 ≤ y ∧ y ≤ 2199 ∧ 1 ≤ m ∧ m ≤ 12 ∧ 1 ≤ d
  · have h1 : md y m < d := by omega
    clear h
    go_enter Tryd.func54, Tryd.ntmps54
    go_wp2_with (go_at_call 72; refine (monthDays_any _ _ _ (by omega)).mono ?_; rintro e w' ⟨rfl, rfl⟩)
    go_ret2
    exact ⟨rfl, rfl⟩
  · clear h
    rcases (by omega : y < 1970 ∨ (1970 ≤ y ∧ 2199 < y) ∨ (1970 ≤ y ∧ y ≤ 2199 ∧ m < 1) ∨ (1970 ≤ y ∧ y ≤ 2199 ∧ 1 ≤ m ∧ 12 < m) ∨ (1970 ≤ y ∧ y ≤ 2199 ∧ 1 ≤ m ∧ m ≤ 12 ∧ d < 1)) with h | h | h | h | h
    all_goals
      clear h0
      go_enter Tryd.func54, Tryd.ntmps54
      go_wp2_with fail
      go_ret2
      exact ⟨rfl, rfl⟩

instance (y m d : Int) : Decidable (Valid y m d) := by unfold Valid; infer_instance

/-- What either side answers of a date. -/
def dayV (y m d : Int) : Int × Int := if Valid y m d then (num y m d, 0) else (0, 2)

theorem DayOf_any (y m d : Int) (w : World) :
    Calls Tryd.prog 32 #[.int .i64 y, .int .i64 m, .int .i64 d] w fun e w' => e = .returned (.tuple #[.int .i64 (dayV y m d).1, .int .i64 (dayV y m d).2]) ∧ w = w' := by
  by_cases h : Valid y m d
  · have hv : dayV y m d = (num y m d, 0) := if_pos h
    rw [hv]
    have H := hide (fun W => dayOf_yes y m d W h)
    clear h hv
    go_enter Tryd.func32, Tryd.ntmps32
    go_wp2_with fail
    refine (H.out _).mono ?_
    rintro e w' ⟨rfl, rfl⟩
    go_wp2
    go_ret2
    exact ⟨rfl, rfl⟩
  · have hv : dayV y m d = (0, 2) := if_neg h
    rw [hv]
    have H := hide (fun W => dayOf_no y m d W h)
    clear h hv
    go_enter Tryd.func32, Tryd.ntmps32
    go_wp2_with fail
    refine (H.out _).mono ?_
    rintro e w' ⟨rfl, rfl⟩
    go_wp2
    go_ret2
    exact ⟨rfl, rfl⟩

/-! ## From a number to a date -/

def YearRel (n : Int) (v2 : Value) : Prop := ∃ y : Int, 1970 ≤ y ∧ y ≤ 2199 ∧ bf y ≤ n ∧ v2 = .int .i64 y
def MonthRel (n y : Int) (v0 v3 : Value) : Prop := ∃ k : Nat, (k : Int) ≤ 11 ∧ v3 = .int .i64 ((k : Int) + 1) ∧ v0 = .int .i64 (n - bf y - cum y k) ∧ 0 ≤ n - bf y - cum y k

/-- The date of a day, as the program's search finds it. -/
def DatePost (n : Int) (e : Ending) : Prop := ∃ y m d : Int, e = .returned (.tuple #[.int .i64 y, .int .i64 m, .int .i64 d]) ∧ Valid y m d ∧ num y m d = n

theorem bf_next (y : Int) : bf (y + 1) = bf y + yd y := by
  unfold bf yd lpB
  by_cases h1 : y % 4 = 0 <;> by_cases h2 : y % 100 = 0 <;> by_cases h3 : y % 400 = 0 <;> simp [h1, h2, h3] <;> omega

theorem cum_year (y : Int) : cum y 12 = yd y := by
  simp only [cum, md, yd]
  cases lpB y <;> simp

end Go.Proofs.YtehmjlgkhhjogaaDoor.days
