/-
  The calendar in plain arithmetic: what the program and the reference compute of days, and that they agree (checked over all months of the years that either meets).
-/
namespace Go.Proofs.YtehmjlgkhhjogaaDoor.cal

/-- Leap years. -/
def lpB (y : Int) : Bool := decide (y % 4 = 0) && (!decide (y % 100 = 0) || decide (y % 400 = 0))
/-- Days of a month. -/
def md (y m : Int) : Int := if m = 2 then (if lpB y then 29 else 28) else if m = 4 ∨ m = 6 ∨ m = 9 ∨ m = 11 then 30 else 31
/-- Days from 1970 to the beginning of a year. -/
def bf (y : Int) : Int := 365 * (y - 1970) + (y - 1) / 4 - (y - 1) / 100 + (y - 1) / 400 - 477
def yd (y : Int) : Int := if lpB y then 366 else 365
/-- Days of the months before month k + 1. -/
def cum (y : Int) : Nat → Int
  | 0 => 0
  | k + 1 => cum y k + md y ((k : Int) + 1)
/-- The number of a day. -/
def num (y m d : Int) : Int := bf y + cum y (m - 1).toNat + d - 1

/-- The reference's first day of a year, from 2001 on. -/
def yday (y : Int) : Int := 365 * (y - 2001) + (y - 2001) / 4 - (y - 2001) / 100 + (y - 2001) / 400
/-- The reference's table of days before a month. -/
def tab : Nat → Int
  | 0 => 31 | 1 => 28 | 2 => 31 | 3 => 30 | 4 => 31 | 5 => 30 | 6 => 31 | 7 => 31 | 8 => 30 | 9 => 31 | 10 => 30 | _ => 31
def tabs : Nat → Int
  | 0 => 0
  | k + 1 => tabs k + tab k
/-- The reference's date of a year, a month from 1 to 12 and a number. -/
def dat (y m d : Int) : Int := yday y + (tabs (m - 1).toNat + (if 2 < m ∧ lpB y then 1 else 0)) + d - 1

/-- The reference's parts of a date. -/
def row (t : Int) : Int := (t + 730791) / 146097
def rest (t : Int) : Int := t + 730791 - 146097 * row t
def yr (n : Int) : Int := (n - n / 1460 + n / 36524 - n / 146096) / 365
def inY (n : Int) : Int := n - (365 * yr n + yr n / 4 - yr n / 100)
def mo (n : Int) : Int := (5 * n + 2) / 153
def pd (t : Int) : Int := inY (rest t) - (153 * mo (inY (rest t)) + 2) / 5 + 1
def pm (t : Int) : Int := if 12 < mo (inY (rest t)) + 3 then mo (inY (rest t)) + 3 - 12 else mo (inY (rest t)) + 3
def py (t : Int) : Int := if 12 < mo (inY (rest t)) + 3 then 400 * row t + yr (rest t) + 1 else 400 * row t + yr (rest t)

def allTo (f : Nat → Bool) : Nat → Bool
  | 0 => true
  | n + 1 => f n && allTo f n
theorem allTo_at {f : Nat → Bool} : ∀ {n : Nat}, allTo f n = true → ∀ k, k < n → f k = true
  | 0, _, k, hk => absurd hk (by omega)
  | n + 1, h, k, hk => by
    simp only [allTo, Bool.and_eq_true] at h
    rcases Nat.lt_or_ge k n with h1 | h1
    · exact allTo_at h.2 k h1
    · obtain rfl : k = n := by omega
      exact h.1

/-- A number reckoned once, then handed on (so that the kernel does not reckon it anew wherever it is used). -/
def fz (n : Nat) (f : Nat → Bool) : Bool :=
  match n with
  | 0 => f 0
  | k + 1 => f (k + 1)
theorem fz_eq (n : Nat) (f : Nat → Bool) : fz n f = f n := by cases n <;> rfl
def fi (n : Int) (f : Int → Bool) : Bool :=
  match n with
  | .ofNat k => fz k fun k => f (.ofNat k)
  | .negSucc k => fz k fun k => f (.negSucc k)
theorem fi_eq (n : Int) (f : Int → Bool) : fi n f = f n := by cases n <;> simp [fi, fz_eq]

/-- A date's parts are y, m, d. -/
def okParts (t y m d : Int) : Bool :=
  fi (row t) fun r => fi (t + 730791 - 146097 * r) fun n => fi (yr n) fun q => fi (n - (365 * q + q / 4 - q / 100)) fun e => fi (mo e) fun k =>
    (e - (153 * k + 2) / 5 + 1 == d) && (if 12 < k + 3 then k + 3 - 12 == m && 400 * r + q + 1 == y else k + 3 == m && 400 * r + q == y)
def okPart3 (t d : Int) : Bool :=
  fi (row t) fun r => fi (t + 730791 - 146097 * r) fun n => fi (yr n) fun q => fi (n - (365 * q + q / 4 - q / 100)) fun e => fi (mo e) fun k =>
    (e - (153 * k + 2) / 5 + 1 != d)
theorem okParts_iff {t y m d : Int} (h : okParts t y m d = true) : py t = y ∧ pm t = m ∧ pd t = d := by
  simp only [okParts, fi_eq, Bool.and_eq_true, beq_iff_eq] at h
  obtain ⟨h1, h2⟩ := h
  unfold py pm pd inY rest
  split at h2
  · rename_i h3
    simp only [Bool.and_eq_true, beq_iff_eq] at h2
    rw [if_pos h3, if_pos h3]
    exact ⟨h2.2, h2.1, h1⟩
  · rename_i h3
    simp only [Bool.and_eq_true, beq_iff_eq] at h2
    rw [if_neg h3, if_neg h3]
    exact ⟨h2.2, h2.1, h1⟩
theorem okPart3_iff {t d : Int} (h : okPart3 t d = true) : pd t ≠ d := by
  simp only [okPart3, fi_eq, bne_iff_ne] at h
  exact h

/-- All days of a month: b: the number of its first day, e: the days that it has. -/
def okMonth (y m : Int) : Bool :=
  fi (md y m) fun e => fi (num y m 1) fun b => (dat y m 1 == b - 11323) && allTo (fun d => if (d : Int) < e then okParts (b - 11323 + (d : Int)) y m ((d : Int) + 1) else okPart3 (b - 11323 + (d : Int)) ((d : Int) + 1)) 31
def okYear (y : Int) : Bool := allTo (fun m => fi ((m : Int) + 1) fun m => okMonth y m) 12
def okYears (a n : Nat) : Bool := allTo (fun k => fi ((k : Int) + (a : Int)) okYear) n
theorem okYears0 : okYears 1970 58 = true := by decide +kernel
theorem okYears1 : okYears 2028 58 = true := by decide +kernel
theorem okYears2 : okYears 2086 57 = true := by decide +kernel
theorem okYears3 : okYears 2143 57 = true := by decide +kernel

/-- The first days of months, of more years. -/
def okFirst (y m : Int) : Bool := fi (dat y m 1) fun b => okParts b y m 1 && ((if m = 12 then dat (y + 1) 1 1 else dat y (m + 1) 1) - b == md y m)
def okFirsts (a n : Nat) : Bool := allTo (fun k => fi ((k : Int) + (a : Int)) fun y => allTo (fun m => fi ((m : Int) + 1) fun m => okFirst y m) 12) n
theorem okFirsts0 : okFirsts 1710 760 = true := by decide +kernel

end Go.Proofs.YtehmjlgkhhjogaaDoor.cal
