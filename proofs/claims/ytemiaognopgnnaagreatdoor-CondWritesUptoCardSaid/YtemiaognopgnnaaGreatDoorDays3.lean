/-
  The calendar in plain arithmetic: what the program and the reference compute of days, and that they agree (checked over all months of the years that either meets). The calendar: what the checks over all months give. The program's and the reference's small functions on days: what each computes. slices.Equal at []int: it says whether the two slices read as the same list. The reference's dates. The program's dates, and what either side answers of a date.
-/
import Derived.Test.YtemiaognopgnnaaGreatDoorRows
import Derived.Test.YtemiaognopgnnaaGreatDoorL2
import Derived.WalkLawsBesides
import Derived.Deep.QuietTactic
import Derived.BigQuiet
namespace Go.Proofs.YtemiaognopgnnaaGreatDoor.cal

/-- Leap years. -/
def lpB (y : Int) : Bool := decide (y % 4 = 0) && (!decide (y % 100 = 0) || decide (y % 400 = 0))
/-- Days of a month. -/
def md (y m : Int) : Int := if m = 2 then (if lpB y then 29 else 28) else if m = 4 ∨ m = 6 ∨ m = 9 ∨ m = 11 then 30 else 31
/-- Days from 1970 to the beginning of a year. -/
def bf (y : Int) : Int := 365 * (y - 1970) + (y - 1) / 4 - (y - 1) / 100 + (y - 1) / 400 - 477
def yd (y : Int) : Int := if lpB y then 366 else 365
/-- Days of the months before month k + 1. -/
def cum (y : Int) : Nat → Int
  | 0 => 0
  | k + 1 => cum y k + md y ((k : Int) + 1)
/-- The number of a day. -/
def num (y m d : Int) : Int := bf y + cum y (m - 1).toNat + d - 1

/-- The reference's first day of a year, from 2001 on. -/
def yday (y : Int) : Int := 365 * (y - 2001) + (y - 2001) / 4 - (y - 2001) / 100 + (y - 2001) / 400
/-- The reference's table of days before a month. -/
def tab : Nat → Int
  | 0 => 31 | 1 => 28 | 2 => 31 | 3 => 30 | 4 => 31 | 5 => 30 | 6 => 31 | 7 => 31 | 8 => 30 | 9 => 31 | 10 => 30 | _ => 31
def tabs : Nat → Int
  | 0 => 0
  | k + 1 => tabs k + tab k
/-- The reference's date of a year, a month from 1 to 12 and a number. -/
def dat (y m d : Int) : Int := yday y + (tabs (m - 1).toNat + (if 2 < m ∧ lpB y then 1 else 0)) + d - 1

/-- The reference's parts of a date. -/
def row (t : Int) : Int := (t + 730791) / 146097
def rest (t : Int) : Int := t + 730791 - 146097 * row t
def yr (n : Int) : Int := (n - n / 1460 + n / 36524 - n / 146096) / 365
def inY (n : Int) : Int := n - (365 * yr n + yr n / 4 - yr n / 100)
def mo (n : Int) : Int := (5 * n + 2) / 153
def pd (t : Int) : Int := inY (rest t) - (153 * mo (inY (rest t)) + 2) / 5 + 1
def pm (t : Int) : Int := if 12 < mo (inY (rest t)) + 3 then mo (inY (rest t)) + 3 - 12 else mo (inY (rest t)) + 3
def py (t : Int) : Int := if 12 < mo (inY (rest t)) + 3 then 400 * row t + yr (rest t) + 1 else 400 * row t + yr (rest t)

def allTo (f : Nat → Bool) : Nat → Bool
  | 0 => true
  | n + 1 => f n && allTo f n
theorem allTo_at {f : Nat → Bool} : ∀ {n : Nat}, allTo f n = true → ∀ k, k < n → f k = true
  | 0, _, k, hk => absurd hk (by omega)
  | n + 1, h, k, hk => by
    simp only [allTo, Bool.and_eq_true] at h
    rcases Nat.lt_or_ge k n with h1 | h1
    · exact allTo_at h.2 k h1
    · obtain rfl : k = n := by omega
      exact h.1

/-- A number reckoned once, then handed on (so that the kernel does not reckon it anew wherever it is used). -/
def fz (n : Nat) (f : Nat → Bool) : Bool :=
  match n with
  | 0 => f 0
  | k + 1 => f (k + 1)
theorem fz_eq (n : Nat) (f : Nat → Bool) : fz n f = f n := by cases n <;> rfl
def fi (n : Int) (f : Int → Bool) : Bool :=
  match n with
  | .ofNat k => fz k fun k => f (.ofNat k)
  | .negSucc k => fz k fun k => f (.negSucc k)
theorem fi_eq (n : Int) (f : Int → Bool) : fi n f = f n := by cases n <;> simp [fi, fz_eq]

/-- A date's parts are y, m, d. -/
def okParts (t y m d : Int) : Bool :=
  fi (row t) fun r => fi (t + 730791 - 146097 * r) fun n => fi (yr n) fun q => fi (n - (365 * q + q / 4 - q / 100)) fun e => fi (mo e) fun k =>
    (e - (153 * k + 2) / 5 + 1 == d) && (if 12 < k + 3 then k + 3 - 12 == m && 400 * r + q + 1 == y else k + 3 == m && 400 * r + q == y)
def okPart3 (t d : Int) : Bool :=
  fi (row t) fun r => fi (t + 730791 - 146097 * r) fun n => fi (yr n) fun q => fi (n - (365 * q + q / 4 - q / 100)) fun e => fi (mo e) fun k =>
    (e - (153 * k + 2) / 5 + 1 != d)
theorem okParts_iff {t y m d : Int} (h : okParts t y m d = true) : py t = y ∧ pm t = m ∧ pd t = d := by
  simp only [okParts, fi_eq, Bool.and_eq_true, beq_iff_eq] at h
  obtain ⟨h1, h2⟩ := h
  unfold py pm pd inY rest
  split at h2
  · rename_i h3
    simp only [Bool.and_eq_true, beq_iff_eq] at h2
    rw [if_pos h3, if_pos h3]
    exact ⟨h2.2, h2.1, h1⟩
  · rename_i h3
    simp only [Bool.and_eq_true, beq_iff_eq] at h2
    rw [if_neg h3, if_neg h3]
    exact ⟨h2.2, h2.1, h1⟩
theorem okPart3_iff {t d : Int} (h : okPart3 t d = true) : pd t ≠ d := by
  simp only [okPart3, fi_eq, bne_iff_ne] at h
  exact h

/-- All days of a month: b: the number of its first day, e: the days that it has. -/
def okMonth (y m : Int) : Bool :=
  fi (md y m) fun e => fi (num y m 1) fun b => (dat y m 1 == b - 11323) && allTo (fun d => if (d : Int) < e then okParts (b - 11323 + (d : Int)) y m ((d : Int) + 1) else okPart3 (b - 11323 + (d : Int)) ((d : Int) + 1)) 31
def okYear (y : Int) : Bool := allTo (fun m => fi ((m : Int) + 1) fun m => okMonth y m) 12
def okYears (a n : Nat) : Bool := allTo (fun k => fi ((k : Int) + (a : Int)) okYear) n
theorem okYears0 : okYears 1970 58 = true := by decide +kernel
theorem okYears1 : okYears 2028 58 = true := by decide +kernel
theorem okYears2 : okYears 2086 57 = true := by decide +kernel
theorem okYears3 : okYears 2143 57 = true := by decide +kernel

/-- The first days of months, of more years. -/
def okFirst (y m : Int) : Bool := fi (dat y m 1) fun b => okParts b y m 1 && ((if m = 12 then dat (y + 1) 1 1 else dat y (m + 1) 1) - b == md y m)
def okFirsts (a n : Nat) : Bool := allTo (fun k => fi ((k : Int) + (a : Int)) fun y => allTo (fun m => fi ((m : Int) + 1) fun m => okFirst y m) 12) n
theorem okFirsts0 : okFirsts 1710 760 = true := by decide +kernel

end Go.Proofs.YtemiaognopgnnaaGreatDoor.cal
namespace Go.Proofs.YtemiaognopgnnaaGreatDoor.cal

theorem okYear_at {a n : Nat} (h : okYears a n = true) (y : Int) (h1 : (a : Int) ≤ y) (h2 : y < a + n) : okYear y = true := by
  have := allTo_at h (y - a).toNat (by omega)
  simp only [fi_eq] at this
  rwa [show (((y - a).toNat : Nat) : Int) + (a : Int) = y from by omega] at this

theorem okMonth_of (y m : Int) (hy1 : 1970 ≤ y) (hy2 : y ≤ 2199) (hm1 : 1 ≤ m) (hm2 : m ≤ 12) : okMonth y m = true := by
  have hy : okYear y = true := by
    rcases (by omega : y < 2028 ∨ (2028 ≤ y ∧ y < 2086) ∨ (2086 ≤ y ∧ y < 2143) ∨ 2143 ≤ y) with h | h | h | h
    · exact okYear_at okYears0 y (by omega) (by omega)
    · exact okYear_at okYears1 y (by omega) (by omega)
    · exact okYear_at okYears2 y (by omega) (by omega)
    · exact okYear_at okYears3 y (by omega) (by omega)
  have := allTo_at hy (m - 1).toNat (by omega)
  simp only [fi_eq] at this
  rwa [show (((m - 1).toNat : Nat) : Int) + 1 = m from by omega] at this

theorem num_lin (y m d : Int) : num y m d = num y m 1 + d - 1 := by unfold num; omega
theorem dat_lin (y m d : Int) : dat y m d = dat y m 1 + d - 1 := by unfold dat; omega

/-- Of every day from 1970 to 2199: the reference reckons the same number, and its parts give the day back. -/
theorem day_same (y m d : Int) (hy1 : 1970 ≤ y) (hy2 : y ≤ 2199) (hm1 : 1 ≤ m) (hm2 : m ≤ 12) (hd1 : 1 ≤ d) (hd2 : d ≤ md y m) (hd3 : d ≤ 31) :
    dat y m d = num y m d - 11323 ∧ py (num y m d - 11323) = y ∧ pm (num y m d - 11323) = m ∧ pd (num y m d - 11323) = d := by
  have h := okMonth_of y m hy1 hy2 hm1 hm2
  simp only [okMonth, fi_eq, Bool.and_eq_true, beq_iff_eq] at h
  have h1 := h.1
  have h2 := allTo_at h.2 (d - 1).toNat (by omega)
  have e : (((d - 1).toNat : Nat) : Int) = d - 1 := by omega
  simp only [e] at h2
  rw [if_pos (by omega)] at h2
  have h3 := okParts_iff h2
  rw [show num y m 1 - 11323 + (d - 1) = num y m d - 11323 from by rw [num_lin y m d]; omega, show d - 1 + 1 = d from by omega] at h3
  exact ⟨by rw [dat_lin, num_lin, h1]; omega, h3⟩

/-- A number beyond the month's end is not given back. -/
theorem day_beyond (y m d : Int) (hy1 : 1970 ≤ y) (hy2 : y ≤ 2199) (hm1 : 1 ≤ m) (hm2 : m ≤ 12) (hd1 : 1 ≤ d) (hd2 : md y m < d) (hd3 : d ≤ 31) : pd (dat y m d) ≠ d := by
  have h := okMonth_of y m hy1 hy2 hm1 hm2
  simp only [okMonth, fi_eq, Bool.and_eq_true, beq_iff_eq] at h
  have h1 := h.1
  have h2 := allTo_at h.2 (d - 1).toNat (by omega)
  have e : (((d - 1).toNat : Nat) : Int) = d - 1 := by omega
  simp only [e] at h2
  rw [if_neg (by omega)] at h2
  have h3 := okPart3_iff h2
  rw [show num y m 1 - 11323 + (d - 1) = dat y m d from by rw [dat_lin y m d]; omega, show d - 1 + 1 = d from by omega] at h3
  exact h3

theorem first_same (y m : Int) (hy1 : 1710 ≤ y) (hy2 : y < 2470) (hm1 : 1 ≤ m) (hm2 : m ≤ 12) :
    py (dat y m 1) = y ∧ pm (dat y m 1) = m ∧ pd (dat y m 1) = 1 ∧ (if m = 12 then dat (y + 1) 1 1 else dat y (m + 1) 1) - dat y m 1 = md y m := by
  have h := allTo_at okFirsts0 (y - 1710).toNat (by omega)
  simp only [fi_eq] at h
  have h := allTo_at h (m - 1).toNat (by omega)
  rw [show (((m - 1).toNat : Nat) : Int) + 1 = m from by omega, show (((y - 1710).toNat : Nat) : Int) + ((1710 : Nat) : Int) = y from by omega] at h
  simp only [okFirst, fi_eq, Bool.and_eq_true, beq_iff_eq] at h
  obtain ⟨h1, h2, h3⟩ := okParts_iff h.1
  exact ⟨h1, h2, h3, h.2⟩

theorem md_range (y m : Int) : 28 ≤ md y m ∧ md y m ≤ 31 := by
  unfold md
  repeat' split
  all_goals omega
end Go.Proofs.YtemiaognopgnnaaGreatDoor.cal
namespace Go.Proofs.YtemiaognopgnnaaGreatDoor.days
open Go.RowKit Go.Proofs.YtemiaognopgnnaaGreatDoor.cal
set_option linter.unusedVariables false

theorem ret_int {k : IntKind} {a b : Int} (h : a = b) : Ending.returned (.int k a) = .returned (.int k b) := by rw [h]
theorem ret_bool {a b : Bool} (h : a = b) : Ending.returned (.bool a) = .returned (.bool b) := by rw [h]

theorem lp1 {y : Int} (h1 : y % 4 = 0) (h2 : y % 100 = 0) : (y % 400 == 0) = lpB y := by
  unfold lpB
  rw [Bool.eq_iff_iff]
  simp [h1, h2]
theorem lp2 {y : Int} (h1 : y % 4 = 0) (h2 : ¬ y % 100 = 0) : true = lpB y := by simp [lpB, h1, h2]
theorem lp3 {y : Int} (h1 : ¬ y % 4 = 0) : false = lpB y := by simp [lpB, h1]

theorem leap_any (y : Int) (w : World) (h0 : 0 ≤ y) : Calls Tryz.prog 258 #[.int .i64 y] w fun e w' => e = .returned (.bool (lpB y)) ∧ w = w' := by
  go_enter Tryz.func258, Tryz.ntmps258
  go_wp2
  all_goals go_ret
  all_goals refine ⟨ret_bool ?_, rfl⟩
  all_goals first | exact lp1 ‹_› ‹_› | exact lp2 ‹_› ‹_› | exact lp3 ‹_›

theorem monthDays_any (y m : Int) (w : World) (h0 : 0 ≤ y) : Calls Tryz.prog 239 #[.int .i64 y, .int .i64 m] w fun e w' => e = .returned (.int .i64 (md y m)) ∧ w = w' := by
  by_cases h2 : m = 2
  · subst h2
    cases hl : lpB y with
    | true =>
      have H := hide hl; clear hl
      go_enter Tryz.func239, Tryz.ntmps239
      go_wp2_with (go_at_call 258; refine (leap_any y _ h0).mono ?_; rintro e w' ⟨rfl, rfl⟩; rw [H.out])
      go_ret
      exact ⟨ret_int (by simp [md, H.out]), rfl⟩
    | false =>
      have H := hide hl; clear hl
      go_enter Tryz.func239, Tryz.ntmps239
      go_wp2_with (go_at_call 258; refine (leap_any y _ h0).mono ?_; rintro e w' ⟨rfl, rfl⟩; rw [H.out])
      go_ret
      exact ⟨ret_int (by simp [md, H.out]), rfl⟩
  · have h2' : (m == 2) = false := by simpa using h2
    go_enter Tryz.func239, Tryz.ntmps239
    go_wp2
    all_goals go_ret
    all_goals refine ⟨ret_int ?_, rfl⟩
    all_goals simp only [beq_iff_eq, beq_eq_false_iff_ne, ne_eq] at *
    all_goals (unfold md; rw [if_neg h2]; split <;> first | rfl | (exfalso; omega))

theorem yearDays_any (y : Int) (w : World) (h0 : 0 ≤ y) : Calls Tryz.prog 238 #[.int .i64 y] w fun e w' => e = .returned (.int .i64 (yd y)) ∧ w = w' := by
  cases hl : lpB y with
  | true =>
    have H := hide hl; clear hl
    go_enter Tryz.func238, Tryz.ntmps238
    go_wp2_with (go_at_call 258; refine (leap_any y _ h0).mono ?_; rintro e w' ⟨rfl, rfl⟩; rw [H.out])
    go_ret
    exact ⟨ret_int (by simp [yd, H.out]), rfl⟩
  | false =>
    have H := hide hl; clear hl
    go_enter Tryz.func238, Tryz.ntmps238
    go_wp2_with (go_at_call 258; refine (leap_any y _ h0).mono ?_; rintro e w' ⟨rfl, rfl⟩; rw [H.out])
    go_ret
    exact ⟨ret_int (by simp [yd, H.out]), rfl⟩

theorem before_any (y : Int) (w : World) (h0 : 1 ≤ y) (h1 : y ≤ 1000000) : Calls Tryz.prog 237 #[.int .i64 y] w fun e w' => e = .returned (.int .i64 (bf y)) ∧ w = w' := by
  go_enter Tryz.func237, Tryz.ntmps237
  go_wp2
  go_ret
  exact ⟨ret_int rfl, rfl⟩

theorem badDay_any (n : Int) (w : World) : Calls Tryz.prog 161 #[.int .i64 n] w fun e w' => e = .returned (.bool (decide (n < 0 ∨ 84005 < n))) ∧ w = w' := by
  by_cases h0 : n < 0
  · go_enter Tryz.func161, Tryz.ntmps161
    go_wp2
    go_ret
    exact ⟨ret_bool (by simp [h0]), rfl⟩
  · go_enter Tryz.func161, Tryz.ntmps161
    go_wp2
    go_ret
    exact ⟨ret_bool (by simp; omega), rfl⟩

theorem tdiv_floor (a b : Int) (hb : 0 < b) : a / b = if a.tmod b < 0 then a.tdiv b - 1 else a.tdiv b := by
  rcases (by omega : a < 0 ∨ 0 ≤ a) with h | h
  · obtain ⟨n, rfl⟩ : ∃ n : Nat, a = -(n : Int) := ⟨(-a).toNat, by omega⟩
    rw [Int.neg_tmod, Int.neg_tdiv, Int.tdiv_eq_ediv_of_nonneg (by omega), Int.tmod_eq_emod_of_nonneg (by omega)]
    have h1 := Int.mul_ediv_add_emod (n : Int) b
    have h2 := Int.emod_nonneg (n : Int) (b := b) (by omega)
    have h3 := Int.emod_lt_of_pos (n : Int) hb
    split
    · rename_i h4
      refine (Int.ediv_eq_iff_of_pos hb).2 ⟨?_, ?_⟩
      · rw [Int.sub_mul, Int.neg_mul, Int.mul_comm _ b]; omega
      · rw [Int.sub_mul, Int.neg_mul, Int.mul_comm _ b]; omega
    · rename_i h4
      refine (Int.ediv_eq_iff_of_pos hb).2 ⟨?_, ?_⟩
      · rw [Int.neg_mul, Int.mul_comm _ b]; omega
      · rw [Int.neg_mul, Int.mul_comm _ b]; omega
  · rw [Int.tdiv_eq_ediv_of_nonneg h, Int.tmod_eq_emod_of_nonneg h, if_neg]
    have := Int.emod_nonneg a (b := b) (by omega)
    omega

theorem floor_any (a b : Int) (w : World) (hb0 : 1 ≤ b) (hb1 : b ≤ 1000000) (ha0 : -1000000000000 ≤ a) (ha1 : a ≤ 1000000000000) :
    Calls Tryz.prog 209 #[.int .i64 a, .int .i64 b] w fun e w' => e = .returned (.int .i64 (a / b)) ∧ w = w' := by
  have hf := tdiv_floor a b (by omega)
  have hw : ∀ x : Int, -1000000000000 ≤ x → x ≤ 1000000000000 → wrap64 x = x := fun x h0 h1 => IntWalk.wrap64_in x ⟨by omega, by omega⟩
  go_enter Tryz.func209, Tryz.ntmps209
  go_wp2
  all_goals go_ret
  · have hlt : a.tmod b < 0 := by assumption
    rw [if_pos hlt] at hf
    have h1 : -1000000000000 ≤ a / b := Int.le_ediv_of_mul_le (by omega) (by omega)
    have h2 : a / b ≤ 1000000000000 := Int.ediv_le_of_le_mul (by omega) (by omega)
    exact ⟨ret_int (by show wrap64 (a.tdiv b - 1) = a / b; rw [← hf]; exact hw _ h1 h2), rfl⟩
  · have hlt : 0 ≤ a.tmod b := by assumption
    rw [if_neg (by omega)] at hf
    exact ⟨ret_int hf.symm, rfl⟩
end Go.Proofs.YtemiaognopgnnaaGreatDoor.days
namespace Go.Proofs.YtemiaognopgnnaaGreatDoor
open Go.RowKit

theorem intTy : SlTy Tryz.prog 251 3 (.int .i64 0) 1 8 :=
  ⟨Tryz.underlying251, info_parts (by kernel_rfl), rfl, by decide, by decide⟩

theorem ne_of_get {α : Type} {l l' : List α} {k : Nat} (h : l[k]? ≠ l'[k]?) : l ≠ l' := fun e => h (by rw [e])

def EqRel (n : Nat) (l l' : List Int) (w : World) (_ v13 : Value) (wr : World) : Prop :=
  ∃ (k d : Nat), k ≤ n ∧ v13 = .int .i64 k ∧ wr = w.drewN d ∧ l.take k = l'.take k

end Go.Proofs.YtemiaognopgnnaaGreatDoor
namespace Go.Proofs.YtemiaognopgnnaaGreatDoor.days
open Go.RowKit Go.Proofs.YtemiaognopgnnaaGreatDoor.cal
set_option linter.unusedVariables false

theorem rest_range (t : Int) : 0 ≤ rest t ∧ rest t ≤ 146096 := by unfold rest row; omega
theorem yr_range {n : Int} (h0 : 0 ≤ n) (h1 : n ≤ 146096) : 0 ≤ yr n ∧ yr n ≤ 400 := by unfold yr; omega

set_option maxHeartbeats 1000000 in
theorem parts_any (t : Int) (w : World) (h0 : -400000 ≤ t) (h1 : t ≤ 400000) (hy : 0 ≤ inY (rest t)) :
    Calls Tryz.prog 166 #[.int .i64 t] w fun e w' => e = .returned (.tuple #[.int .i64 (py t), .int .i64 (pm t), .int .i64 (pd t)]) ∧ w = w' := by
  obtain ⟨r, hr⟩ : ∃ r, r = row t := ⟨_, rfl⟩
  have hr0 : 0 ≤ t + 730791 - 146097 * r ∧ t + 730791 - 146097 * r ≤ 146096 := by rw [hr]; exact rest_range t
  have hr1 : -10 ≤ r ∧ r ≤ 10 := by rw [hr]; unfold row; omega
  have hy' := hy
  unfold inY yr rest at hy'
  rw [← hr] at hy'
  have hb : (t + 730791) / 146097 = r := by rw [hr]; rfl
  have HR := hide (And.intro hr (And.intro hb hy))
  clear hr hb hy
  go_enter Tryz.func166, Tryz.ntmps166
  go_wp2_with fail
  refine (floor_any _ _ _ (by omega) (by omega) (by omega) (by omega)).mono ?_
  rintro e w' ⟨rfl, rfl⟩
  rw [HR.out.2.1]
  go_wp2_with fail
  all_goals go_ret3
  · have hlt : 12 < mo (inY (rest t)) + 3 := by unfold mo inY yr rest; rw [← HR.out.1]; assumption
    refine ⟨?_, rfl⟩
    unfold py pm pd
    rw [if_pos hlt, if_pos hlt]
    unfold mo inY yr rest
    rw [← HR.out.1]
    rfl
  · have hlt : ¬ 12 < mo (inY (rest t)) + 3 := by unfold mo inY yr rest; rw [← HR.out.1]; exact Int.not_lt.2 (by assumption)
    refine ⟨?_, rfl⟩
    unfold py pm pd
    rw [if_neg hlt, if_neg hlt]
    unfold mo inY yr rest
    rw [← HR.out.1]
    rfl

def tabCells : Array Value := #[.int .i64 31, .int .i64 28, .int .i64 31, .int .i64 30, .int .i64 31, .int .i64 30, .int .i64 31, .int .i64 31, .int .i64 30, .int .i64 31, .int .i64 30, .int .i64 31]
theorem tab_at (w : World) (k : Nat) (hk : k < 12) : (w.alloc (.cells #[.int .i64 31, .int .i64 28, .int .i64 31, .int .i64 30, .int .i64 31, .int .i64 30, .int .i64 31, .int .i64 31, .int .i64 30, .int .i64 31, .int .i64 30, .int .i64 31] 3)).cell? ⟨w.heap.size, k, none⟩ = some (.int .i64 (tab k)) := by
  have h : k = 0 ∨ k = 1 ∨ k = 2 ∨ k = 3 ∨ k = 4 ∨ k = 5 ∨ k = 6 ∨ k = 7 ∨ k = 8 ∨ k = 9 ∨ k = 10 ∨ k = 11 := by omega
  rcases h with h | h | h | h | h | h | h | h | h | h | h | h <;> subst h <;> simp [go_sem, tab]
theorem tab_range (k : Nat) : 28 ≤ tab k ∧ tab k ≤ 31 := by
  unfold tab
  split <;> omega
theorem tabs_range : ∀ k : Nat, 0 ≤ tabs k ∧ tabs k ≤ 31 * k
  | 0 => by simp [tabs]
  | k + 1 => by
    have h1 := tabs_range k
    have h2 := tab_range k
    simp only [tabs]
    omega

def DatRel (m : Nat) (v7 _v9 v26 : Value) : Prop := ∃ k : Nat, k ≤ m ∧ v26 = .int .i64 k ∧ v7 = .int .i64 (tabs k)

end Go.Proofs.YtemiaognopgnnaaGreatDoor.days
namespace Go.Proofs.YtemiaognopgnnaaGreatDoor.days
open Go.RowKit Go.Proofs.YtemiaognopgnnaaGreatDoor.cal
set_option linter.unusedVariables false

theorem ret2_int {k : IntKind} {a b : Int} {x : Value} (h : a = b) : Ending.returned (.tuple #[.int k a, x]) = .returned (.tuple #[.int k b, x]) := by rw [h]

theorem cum_range (y : Int) : ∀ k : Nat, 0 ≤ cum y k ∧ cum y k ≤ 31 * k
  | 0 => by simp [cum]
  | k + 1 => by
    have h1 := cum_range y k
    have h2 := md_range y ((k : Int) + 1)
    simp only [cum]
    omega

/-- A date of the years 1970 to 2199. -/
def Valid (y m d : Int) : Prop := 1970 ≤ y ∧ y ≤ 2199 ∧ 1 ≤ m ∧ m ≤ 12 ∧ 1 ≤ d ∧ d ≤ md y m

def DayRel (y m b : Int) (v8 v9 : Value) : Prop := ∃ k : Nat, (k : Int) + 1 ≤ m ∧ v9 = .int .i64 ((k : Int) + 1) ∧ v8 = .int .i64 (b + cum y k)

instance (y m d : Int) : Decidable (Valid y m d) := by unfold Valid; infer_instance

/-- What either side answers of a date. -/
def dayV (y m d : Int) : Int × Int := if Valid y m d then (num y m d, 0) else (0, 2)

def YearRel (n : Int) (v2 : Value) : Prop := ∃ y : Int, 1970 ≤ y ∧ y ≤ 2199 ∧ bf y ≤ n ∧ v2 = .int .i64 y
def MonthRel (n y : Int) (v0 v3 : Value) : Prop := ∃ k : Nat, (k : Int) ≤ 11 ∧ v3 = .int .i64 ((k : Int) + 1) ∧ v0 = .int .i64 (n - bf y - cum y k) ∧ 0 ≤ n - bf y - cum y k

/-- The date of a day, as the program's search finds it. -/
def DatePost (n : Int) (e : Ending) : Prop := ∃ y m d : Int, e = .returned (.tuple #[.int .i64 y, .int .i64 m, .int .i64 d]) ∧ Valid y m d ∧ num y m d = n

theorem bf_next (y : Int) : bf (y + 1) = bf y + yd y := by
  unfold bf yd lpB
  by_cases h1 : y % 4 = 0 <;> by_cases h2 : y % 100 = 0 <;> by_cases h3 : y % 400 = 0 <;> simp [h1, h2, h3] <;> omega

theorem cum_year (y : Int) : cum y 12 = yd y := by
  simp only [cum, md, yd]
  cases lpB y <;> simp

set_option maxHeartbeats 1000000 in
set_option maxRecDepth 100000 in
theorem date_any (n : Int) (w : World) (h0 : 0 ≤ n) (h1 : n ≤ 84005) :
    Calls Tryz.prog 203 #[.int .i64 n] w fun e w' => DatePost n e ∧ w = w' := by
  go_enter Tryz.func203, Tryz.ntmps203
  go_wp2_with fail
  go_loop [2] (YearRel n) (fun v2 => 3000 - (intOf v2).toNat)
  case atStart => exact ⟨1970 + n / 366, by omega, by omega, by unfold bf; omega, rfl⟩
  case round =>
    obtain ⟨y, hy1, hy2, hy3, rfl⟩ := hrel
    have hn := bf_next y
    have hyd : 365 ≤ yd y ∧ yd y ≤ 366 := by unfold yd; split <;> omega
    have hbf : -1000 ≤ bf y ∧ bf y ≤ 100000 := by unfold bf; omega
    have hlast : y = 2199 → n < bf y + yd y := by
      intro h; subst h
      have : bf 2199 = 83641 := by decide
      have : yd 2199 = 365 := by decide
      omega
    have HN := hide (And.intro hn hlast)
    clear hn hlast
    by_cases hlt : bf y + yd y ≤ n
    · go_wp2_with (first | (go_at_call 237; refine (before_any _ _ (by omega) (by omega)).mono ?_; rintro e w' ⟨rfl, rfl⟩) | (go_at_call 238; refine (yearDays_any _ _ (by omega)).mono ?_; rintro e w' ⟨rfl, rfl⟩))
      have hne : y ≠ 2199 := fun h => absurd (HN.out.2 h) (by omega)
      go_round
      case rel => exact ⟨y + 1, by omega, by omega, by rw [HN.out.1]; exact hlt, rfl⟩
      case measure => simp [intOf]; omega
    · go_wp2_with (first | (go_at_call 237; refine (before_any _ _ (by omega) (by omega)).mono ?_; rintro e w' ⟨rfl, rfl⟩) | (go_at_call 238; refine (yearDays_any _ _ (by omega)).mono ?_; rintro e w' ⟨rfl, rfl⟩))
      go_loop [0, 3] (MonthRel n y) (fun _ v3 => 100 - (intOf v3).toNat)
      case atStart => exact ⟨0, by omega, rfl, by simp [cum], by simp [cum]; omega⟩
      case round =>
        obtain ⟨k, hk, rfl, rfl, hk0⟩ := hrel
        have hr := md_range y ((k : Int) + 1)
        have hc : cum y (k + 1) = cum y k + md y ((k : Int) + 1) := rfl
        have hc12 := cum_year y
        have hr0 := cum_range y k
        have HC := hide (And.intro hc hc12)
        clear hc hc12
        by_cases hm : md y ((k : Int) + 1) ≤ n - bf y - cum y k
        · go_wp2_with (go_at_call 239; refine (monthDays_any _ _ _ (by omega)).mono ?_; rintro e w' ⟨rfl, rfl⟩)
          have hne : k ≠ 11 := by
            rintro rfl
            obtain ⟨h5, h6⟩ := HC.out
            simp only [Nat.reduceAdd] at h5
            omega
          go_round
          case rel => exact ⟨k + 1, by omega, by go_num, by rw [HC.out.1]; go_num, by rw [HC.out.1]; omega⟩
          case measure => simp [intOf]; omega
        · go_wp2_with (go_at_call 239; refine (monthDays_any _ _ _ (by omega)).mono ?_; rintro e w' ⟨rfl, rfl⟩)
          go_ret3
          refine ⟨⟨y, (k : Int) + 1, n - bf y - cum y k + 1, rfl, ⟨by omega, by omega, by omega, by omega, by omega, by omega⟩, ?_⟩, rfl⟩
          unfold num
          rw [show ((k : Int) + 1 - 1).toNat = k from by omega]
          omega
end Go.Proofs.YtemiaognopgnnaaGreatDoor.days
