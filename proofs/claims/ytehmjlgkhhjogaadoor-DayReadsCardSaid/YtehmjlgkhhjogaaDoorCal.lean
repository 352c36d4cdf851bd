/-
  The calendar: what the checks over all months give.
-/
import Derived.Test.YtehmjlgkhhjogaaDoorCal0
namespace Go.Proofs.YtehmjlgkhhjogaaDoor.cal

theorem okYear_at {a n : Nat} (h : okYears a n = true) (y : Int) (h1 : (a : Int) ≤ y) (h2 : y < a + n) : okYear y = true := by
  have := allTo_at h (y - a).toNat (by omega)
  simp only [fi_eq] at this
  rwa [show (((y - a).toNat : Nat) : Int) + (a : Int) = y from by omega] at this

theorem okMonth_of (y m : Int) (hy1 : 1970 ≤ y) (hy2 : y ≤ 2199) (hm1 : 1 ≤ m) (hm2 : m ≤ 12) : okMonth y m = true := by
  have hy : okYear y = true := by
    rcases (by omega : y < 2028 ∨ (2028 ≤ y ∧ y < 2086) ∨ (2086 ≤ y ∧ y < 2143) ∨ 2143 ≤ y) with h | h | h | h
    · exact okYear_at okYears0 y (by omega) (by omega)
    · exact okYear_at okYears1 y (by omega) (by omega)
    · exact okYear_at okYears2 y (by omega) (by omega)
    · exact okYear_at okYears3 y (by omega) (by omega)
  have := allTo_at hy (m - 1).toNat (by omega)
  simp only [fi_eq] at this
  rwa [show (((m - 1).toNat : Nat) : Int) + 1 = m from by omega] at this

theorem num_lin (y m d : Int) : num y m d = num y m 1 + d - 1 := by unfold num; omega
theorem dat_lin (y m d : Int) : dat y m d = dat y m 1 + d - 1 := by unfold dat; omega

/-- Of every day from 1970 to 2199: the reference reckons the same number, and its parts give the day back. -/
theorem day_same (y m d : Int) (hy1 : 1970 ≤ y) (hy2 : y ≤ 2199) (hm1 : 1 ≤ m) (hm2 : m ≤ 12) (hd1 : 1 ≤ d) (hd2 : d ≤ md y m) (hd3 : d ≤ 31) :
    dat y m d = num y m d - 11323 ∧ py (num y m d - 11323) = y ∧ pm (num y m d - 11323) = m ∧ pd (num y m d - 11323) = d := by
  have h := okMonth_of y m hy1 hy2 hm1 hm2
  simp only [okMonth, fi_eq, Bool.and_eq_true, beq_iff_eq] at h
  have h1 := h.1
  have h2 := allTo_at h.2 (d - 1).toNat (by omega)
  have e : (((d - 1).toNat : Nat) : Int) = d - 1 := by omega
  simp only [e] at h2
  rw [if_pos (by omega)] at h2
  have h3 := okParts_iff h2
  rw [show num y m 1 - 11323 + (d - 1) = num y m d - 11323 from by rw [num_lin y m d]; omega, show d - 1 + 1 = d from by omega] at h3
  exact ⟨by rw [dat_lin, num_lin, h1]; omega, h3⟩

/-- A number beyond the month's end is not given back. -/
theorem day_beyond (y m d : Int) (hy1 : 1970 ≤ y) (hy2 : y ≤ 2199) (hm1 : 1 ≤ m) (hm2 : m ≤ 12) (hd1 : 1 ≤ d) (hd2 : md y m < d) (hd3 : d ≤ 31) : pd (dat y m d) ≠ d := by
  have h := okMonth_of y m hy1 hy2 hm1 hm2
  simp only [okMonth, fi_eq, Bool.and_eq_true, beq_iff_eq] at h
  have h1 := h.1
  have h2 := allTo_at h.2 (d - 1).toNat (by omega)
  have e : (((d - 1).toNat : Nat) : Int) = d - 1 := by omega
  simp only [e] at h2
  rw [if_neg (by omega)] at h2
  have h3 := okPart3_iff h2
  rw [show num y m 1 - 11323 + (d - 1) = dat y m d from by rw [dat_lin y m d]; omega, show d - 1 + 1 = d from by omega] at h3
  exact h3

theorem first_same (y m : Int) (hy1 : 1710 ≤ y) (hy2 : y < 2470) (hm1 : 1 ≤ m) (hm2 : m ≤ 12) :
    py (dat y m 1) = y ∧ pm (dat y m 1) = m ∧ pd (dat y m 1) = 1 ∧ (if m = 12 then dat (y + 1) 1 1 else dat y (m + 1) 1) - dat y m 1 = md y m := by
  have h := allTo_at okFirsts0 (y - 1710).toNat (by omega)
  simp only [fi_eq] at h
  have h := allTo_at h (m - 1).toNat (by omega)
  rw [show (((m - 1).toNat : Nat) : Int) + 1 = m from by omega, show (((y - 1710).toNat : Nat) : Int) + ((1710 : Nat) : Int) = y from by omega] at h
  simp only [okFirst, fi_eq, Bool.and_eq_true, beq_iff_eq] at h
  obtain ⟨h1, h2, h3⟩ := okParts_iff h.1
  exact ⟨h1, h2, h3, h.2⟩

theorem md_range (y m : Int) : 28 ≤ md y m ∧ md y m ≤ 31 := by
  unfold md
  repeat' split
  all_goals omega
end Go.Proofs.YtehmjlgkhhjogaaDoor.cal
