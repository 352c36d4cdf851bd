/-
  The program's dates, and what either side answers of a date.
-/
import Derived.Test.YtbfldfnmamdofaaDays2
namespace Go.Proofs.Ytbfldfnmamdofaa.days
open Go.RowKit Go.Proofs.Ytbfldfnmamdofaa.cal
set_option linter.unusedVariables false

theorem ret2_int {k : IntKind} {a b : Int} {x : Value} (h : a = b) : Ending.returned (.tuple #[.int k a, x]) = .returned (.tuple #[.int k b, x]) := by rw [h]

theorem cum_range (y : Int) : ∀ k : Nat, 0 ≤ cum y k ∧ cum y k ≤ 31 * k
  | 0 => by simp [cum]
  | k + 1 => by
    have h1 := cum_range y k
    have h2 := md_range y ((k : Int) + 1)
    simp only [cum]
    omega

/-- A date of the years 1970 to 2199. -/
def Valid (y m d : Int) : Prop := 1970 ≤ y ∧ y ≤ 2199 ∧ 1 ≤ m ∧ m ≤ 12 ∧ 1 ≤ d ∧ d ≤ md y m

def DayRel (y m b : Int) (v8 v9 : Value) : Prop := ∃ k : Nat, (k : Int) + 1 ≤ m ∧ v9 = .int .i64 ((k : Int) + 1) ∧ v8 = .int .i64 (b + cum y k)

set_option maxHeartbeats 1000000 in
set_option maxRecDepth 100000 in
theorem dayOf_yes (y m d : Int) (w : World) (h : Valid y m d) :
    Calls Try.prog 51 #[.int .i64 y, .int .i64 m, .int .i64 d] w fun e w' => e = .returned (.tuple #[.int .i64 (num y m d), .bool true]) ∧ w = w' := by
  obtain ⟨hy1, hy2, hm1, hm2, hd1, hd2⟩ := h
  have hr := md_range y m
  have hbf : -1000 ≤ bf y ∧ bf y ≤ 100000 := by unfold bf; omega
  go_enter Try.func51, Try.ntmps51
  go_wp2_with (first | (go_at_call 65; refine (monthDays_any _ _ _ (by omega)).mono ?_; rintro e w' ⟨rfl, rfl⟩) | (go_at_call 105; refine (before_any _ _ (by omega) (by omega)).mono ?_; rintro e w' ⟨rfl, rfl⟩))
  go_loop [8, 9] (DayRel y m (bf y + d - 1)) (fun _ v9 => 100 - (intOf v9).toNat)
  case atStart => exact ⟨0, by omega, rfl, by simp [cum]⟩
  case round =>
    obtain ⟨k, hk, rfl, rfl⟩ := hrel
    have hc := cum_range y k
    have hr2 := md_range y ((k : Int) + 1)
    by_cases hlt : (k : Int) + 1 < m
    · go_wp2_with (go_at_call 65; refine (monthDays_any _ _ _ (by omega)).mono ?_; rintro e w' ⟨rfl, rfl⟩)
      go_round
      case rel => exact ⟨k + 1, by omega, by go_num, by simp only [cum]; go_num⟩
      case measure => simp [intOf]; omega
    · have hkm : (m - 1).toNat = k := by omega
      have HK := hide hkm
      clear hkm
      go_wp2
      go_ret2
      exact ⟨ret2_int (by unfold num; rw [HK.out]; omega), rfl⟩

theorem dayOf_no (y m d : Int) (w : World) (h : ¬ Valid y m d) :
    Calls Try.prog 51 #[.int .i64 y, .int .i64 m, .int .i64 d] w fun e w' => e = .returned (.tuple #[.int .i64 0, .bool false]) ∧ w = w' := by
  unfold Valid at h
  by_cases h0 : 1970 ≤ y ∧ y ≤ 2199 ∧ 1 ≤ m ∧ m ≤ 12 ∧ 1 ≤ d
  · have h1 : md y m < d := by omega
    clear h
    go_enter Try.func51, Try.ntmps51
    go_wp2_with (go_at_call 65; refine (monthDays_any _ _ _ (by omega)).mono ?_; rintro e w' ⟨rfl, rfl⟩)
    go_ret2
    exact ⟨rfl, rfl⟩
  · clear h
    rcases (by omega : y < 1970 ∨ (1970 ≤ y ∧ 2199 < y) ∨ (1970 ≤ y ∧ y ≤ 2199 ∧ m < 1) ∨ (1970 ≤ y ∧ y ≤ 2199 ∧ 1 ≤ m ∧ 12 < m) ∨ (1970 ≤ y ∧ y ≤ 2199 ∧ 1 ≤ m ∧ m ≤ 12 ∧ d < 1)) with h | h | h | h | h
    all_goals
      clear h0
      go_enter Try.func51, Try.ntmps51
      go_wp2_with fail
      go_ret2
      exact ⟨rfl, rfl⟩

instance (y m d : Int) : Decidable (Valid y m d) := by unfold Valid; infer_instance

/-- What either side answers of a date. -/
def dayV (y m d : Int) : Int × Int := if Valid y m d then (num y m d, 0) else (0, 2)

theorem DayOf_any (y m d : Int) (w : World) :
    Calls Try.prog 22 #[.int .i64 y, .int .i64 m, .int .i64 d] w fun e w' => e = .returned (.tuple #[.int .i64 (dayV y m d).1, .int .i64 (dayV y m d).2]) ∧ w = w' := by
  by_cases h : Valid y m d
  · have hv : dayV y m d = (num y m d, 0) := if_pos h
    rw [hv]
    have H := hide (fun W => dayOf_yes y m d W h)
    clear h hv
    go_enter Try.func22, Try.ntmps22
    go_wp2_with fail
    refine (H.out _).mono ?_
    rintro e w' ⟨rfl, rfl⟩
    go_wp2
    go_ret2
    exact ⟨rfl, rfl⟩
  · have hv : dayV y m d = (0, 2) := if_neg h
    rw [hv]
    have H := hide (fun W => dayOf_no y m d W h)
    clear h hv
    go_enter Try.func22, Try.ntmps22
    go_wp2_with fail
    refine (H.out _).mono ?_
    rintro e w' ⟨rfl, rfl⟩
    go_wp2
    go_ret2
    exact ⟨rfl, rfl⟩

/-! ## From a number to a date -/

def YearRel (n : Int) (v2 : Value) : Prop := ∃ y : Int, 1970 ≤ y ∧ y ≤ 2199 ∧ bf y ≤ n ∧ v2 = .int .i64 y
def MonthRel (n y : Int) (v0 v3 : Value) : Prop := ∃ k : Nat, (k : Int) ≤ 11 ∧ v3 = .int .i64 ((k : Int) + 1) ∧ v0 = .int .i64 (n - bf y - cum y k) ∧ 0 ≤ n - bf y - cum y k

/-- The date of a day, as the program's search finds it. -/
def DatePost (n : Int) (e : Ending) : Prop := ∃ y m d : Int, e = .returned (.tuple #[.int .i64 y, .int .i64 m, .int .i64 d]) ∧ Valid y m d ∧ num y m d = n

theorem bf_next (y : Int) : bf (y + 1) = bf y + yd y := by
  unfold bf yd lpB
  by_cases h1 : y % 4 = 0 <;> by_cases h2 : y % 100 = 0 <;> by_cases h3 : y % 400 = 0 <;> simp [h1, h2, h3] <;> omega

theorem cum_year (y : Int) : cum y 12 = yd y := by
  simp only [cum, md, yd]
  cases lpB y <;> simp

set_option maxHeartbeats 1000000 in
set_option maxRecDepth 100000 in
theorem date_any (n : Int) (w : World) (h0 : 0 ≤ n) (h1 : n ≤ 84005) :
    Calls Try.prog 64 #[.int .i64 n] w fun e w' => DatePost n e ∧ w = w' := by
  go_enter Try.func64, Try.ntmps64
  go_wp2_with fail
  go_loop [2] (YearRel n) (fun v2 => 3000 - (intOf v2).toNat)
  case atStart => exact ⟨1970 + n / 366, by omega, by omega, by unfold bf; omega, rfl⟩
  case round =>
    obtain ⟨y, hy1, hy2, hy3, rfl⟩ := hrel
    have hn := bf_next y
    have hyd : 365 ≤ yd y ∧ yd y ≤ 366 := by unfold yd; split <;> omega
    have hbf : -1000 ≤ bf y ∧ bf y ≤ 100000 := by unfold bf; omega
    have hlast : y = 2199 → n < bf y + yd y := by
      intro h; subst h
      have : bf 2199 = 83641 := by decide
      have : yd 2199 = 365 := by decide
      omega
    have HN := hide (And.intro hn hlast)
    clear hn hlast
    by_cases hlt : bf y + yd y ≤ n
    · go_wp2_with (first | (go_at_call 105; refine (before_any _ _ (by omega) (by omega)).mono ?_; rintro e w' ⟨rfl, rfl⟩) | (go_at_call 109; refine (yearDays_any _ _ (by omega)).mono ?_; rintro e w' ⟨rfl, rfl⟩))
      have hne : y ≠ 2199 := fun h => absurd (HN.out.2 h) (by omega)
      go_round
      case rel => exact ⟨y + 1, by omega, by omega, by rw [HN.out.1]; exact hlt, rfl⟩
      case measure => simp [intOf]; omega
    · go_wp2_with (first | (go_at_call 105; refine (before_any _ _ (by omega) (by omega)).mono ?_; rintro e w' ⟨rfl, rfl⟩) | (go_at_call 109; refine (yearDays_any _ _ (by omega)).mono ?_; rintro e w' ⟨rfl, rfl⟩))
      go_loop [0, 3] (MonthRel n y) (fun _ v3 => 100 - (intOf v3).toNat)
      case atStart => exact ⟨0, by omega, rfl, by simp [cum], by simp [cum]; omega⟩
      case round =>
        obtain ⟨k, hk, rfl, rfl, hk0⟩ := hrel
        have hr := md_range y ((k : Int) + 1)
        have hc : cum y (k + 1) = cum y k + md y ((k : Int) + 1) := rfl
        have hc12 := cum_year y
        have hr0 := cum_range y k
        have HC := hide (And.intro hc hc12)
        clear hc hc12
        by_cases hm : md y ((k : Int) + 1) ≤ n - bf y - cum y k
        · go_wp2_with (go_at_call 65; refine (monthDays_any _ _ _ (by omega)).mono ?_; rintro e w' ⟨rfl, rfl⟩)
          have hne : k ≠ 11 := by
            rintro rfl
            obtain ⟨h5, h6⟩ := HC.out
            simp only [Nat.reduceAdd] at h5
            omega
          go_round
          case rel => exact ⟨k + 1, by omega, by go_num, by rw [HC.out.1]; go_num, by rw [HC.out.1]; omega⟩
          case measure => simp [intOf]; omega
        · go_wp2_with (go_at_call 65; refine (monthDays_any _ _ _ (by omega)).mono ?_; rintro e w' ⟨rfl, rfl⟩)
          go_ret3
          refine ⟨⟨y, (k : Int) + 1, n - bf y - cum y k + 1, rfl, ⟨by omega, by omega, by omega, by omega, by omega, by omega⟩, ?_⟩, rfl⟩
          unfold num
          rw [show ((k : Int) + 1 - 1).toNat = k from by omega]
          omega
end Go.Proofs.Ytbfldfnmamdofaa.days
