/-
  Months added to a day, on either side.
-/
import Derived.Test.YtbfldfnmamdofaaDays4
namespace Go.Proofs.Ytbfldfnmamdofaa.days
open Go.RowKit Go.Proofs.Ytbfldfnmamdofaa.cal
set_option linter.unusedVariables false

/-- The day so many months behind a date. -/
def laterV (y m d k : Int) : Int × Int :=
  dayV ((12 * y + m - 1 + k) / 12) ((12 * y + m - 1 + k) % 12 + 1) (if md ((12 * y + m - 1 + k) / 12) ((12 * y + m - 1 + k) % 12 + 1) < d then md ((12 * y + m - 1 + k) / 12) ((12 * y + m - 1 + k) % 12 + 1) else d)

def bad (n k : Int) : Prop := n < 0 ∨ 84005 < n ∨ k < -3000 ∨ 3000 < k

set_option maxHeartbeats 1000000 in
theorem addMonths_yes (y m d k : Int) (w : World) (h : Valid y m d) (hk : -3000 ≤ k ∧ k ≤ 3000) :
    Calls Try.prog 28 #[.int .i64 (num y m d), .int .i64 k] w fun e w' => e = .returned (.tuple #[.int .i64 (laterV y m d k).1, .int .i64 (laterV y m d k).2]) ∧ w = w' := by
  have hn := valid_num h
  obtain ⟨n, hn'⟩ : ∃ n, n = num y m d := ⟨_, rfl⟩
  rw [← hn'] at hn ⊢
  have HD := hide (fun W => date_any n W hn.1 hn.2)
  have HB := hide (fun W => badDay_any n W)
  have hbd : decide (n < 0 ∨ 84005 < n) = false := by simp; omega
  have HB2 := hide hbd
  have HV := hide (And.intro h hn')
  clear h hn' hbd
  go_enter Try.func28, Try.ntmps28
  go_wp2_with fail
  refine (HB.out _).mono ?_
  rintro e w1 ⟨rfl, rfl⟩
  rw [HB2.out]
  go_wp2_with fail
  refine (HD.out _).mono ?_
  rintro e w1 ⟨⟨y', m', d', rfl, hv', hnum⟩, rfl⟩
  obtain ⟨rfl, rfl, rfl⟩ : y = y' ∧ m = m' ∧ d = d' := by
    have h := HV.out.1
    have r := md_range y m
    have r' := md_range y' m'
    have h5 := day_same y m d h.1 h.2.1 h.2.2.1 h.2.2.2.1 h.2.2.2.2.1 h.2.2.2.2.2 (by have := h.2.2.2.2.2; omega)
    have h6 := day_same y' m' d' hv'.1 hv'.2.1 hv'.2.2.1 hv'.2.2.2.1 hv'.2.2.2.2.1 hv'.2.2.2.2.2 (by have := hv'.2.2.2.2.2; omega)
    rw [hnum, HV.out.2] at h6
    exact ⟨h5.2.1.symm.trans h6.2.1, h5.2.2.1.symm.trans h6.2.2.1, h5.2.2.2.symm.trans h6.2.2.2⟩
  clear hnum
  obtain ⟨hy1, hy2, hm1, hm2, hd1, hd2⟩ := hv'
  have hmr := md_range ((12 * y + m - 1 + k) / 12) ((12 * y + m - 1 + k) % 12 + 1)
  have hL : laterV y m d k = dayV ((12 * y + m - 1 + k) / 12) ((12 * y + m - 1 + k) % 12 + 1) (if md ((12 * y + m - 1 + k) / 12) ((12 * y + m - 1 + k) % 12 + 1) < d then md ((12 * y + m - 1 + k) / 12) ((12 * y + m - 1 + k) % 12 + 1) else d) := rfl
  have HL := hide hL
  clear hL
  by_cases hr : 1970 ≤ (12 * y + m - 1 + k) / 12 ∧ (12 * y + m - 1 + k) / 12 ≤ 2199
  · go_wp2_with fail
    refine (monthDays_any _ _ _ (by omega)).mono ?_
    rintro e w2 ⟨rfl, rfl⟩
    by_cases hmin : md ((12 * y + m - 1 + k) / 12) ((12 * y + m - 1 + k) % 12 + 1) < d
    · have HM := hide (HL.out.trans (by rw [if_pos hmin]))
      go_wp2_with fail
      refine (DayOf_any _ _ _ _).mono ?_
      rintro e w2 ⟨rfl, rfl⟩
      go_wp2
      go_ret2
      exact ⟨by rw [HM.out]; rfl, rfl⟩
    · have HM := hide (HL.out.trans (by rw [if_neg hmin]))
      go_wp2_with fail
      refine (DayOf_any _ _ _ _).mono ?_
      rintro e w2 ⟨rfl, rfl⟩
      go_wp2
      go_ret2
      exact ⟨by rw [HM.out]; rfl, rfl⟩
  · have hv : laterV y m d k = (0, 2) := by
      rw [HL.out]
      refine if_neg (fun h => hr ?_)
      exact ⟨h.1, h.2.1⟩
    have HV2 := hide hv
    clear hv
    rcases (by omega : (12 * y + m - 1 + k) / 12 < 1970 ∨ (1970 ≤ (12 * y + m - 1 + k) / 12 ∧ 2199 < (12 * y + m - 1 + k) / 12)) with hr | hr
    all_goals
      go_wp2_with fail
      go_ret2
      exact ⟨by rw [HV2.out]; rfl, rfl⟩

theorem addMonths_no (n k : Int) (w : World) (h : bad n k) :
    Calls Try.prog 28 #[.int .i64 n, .int .i64 k] w fun e w' => e = .returned (.tuple #[.int .i64 0, .int .i64 2]) ∧ w = w' := by
  unfold bad at h
  have HB := hide (fun W => badDay_any n W)
  rcases (by omega : (n < 0 ∨ 84005 < n) ∨ (¬ (n < 0 ∨ 84005 < n) ∧ k < -3000) ∨ (¬ (n < 0 ∨ 84005 < n) ∧ -3000 ≤ k ∧ 3000 < k)) with h1 | ⟨h1, h2⟩ | ⟨h1, h2⟩
  · have hbd := hide (decide_eq_true h1)
    clear h h1
    go_enter Try.func28, Try.ntmps28
    go_wp2_with fail
    refine (HB.out _).mono ?_
    rintro e w1 ⟨rfl, rfl⟩
    rw [hbd.out]
    go_wp2
    go_ret2
    exact ⟨rfl, rfl⟩
  all_goals
    have hbd := hide (decide_eq_false h1)
    clear h h1
    go_enter Try.func28, Try.ntmps28
    go_wp2_with fail
    refine (HB.out _).mono ?_
    rintro e w1 ⟨rfl, rfl⟩
    rw [hbd.out]
    go_wp2
    go_ret2
    exact ⟨rfl, rfl⟩

theorem laterOf_no (n k : Int) (w : World) (h : bad n k) :
    Calls Try.prog 29 #[.int .i64 n, .int .i64 k] w fun e w' => e = .returned (.tuple #[.int .i64 0, .int .i64 2]) ∧ w = w' := by
  unfold bad at h
  have HB := hide (fun W => isDay_any n W)
  rcases (by omega : ¬ (0 ≤ n ∧ n ≤ 84005) ∨ ((0 ≤ n ∧ n ≤ 84005) ∧ k < -3000) ∨ ((0 ≤ n ∧ n ≤ 84005) ∧ -3000 ≤ k ∧ 3000 < k)) with h1 | ⟨h1, h2⟩ | ⟨h1, h2⟩
  · have hbd := hide (decide_eq_false h1)
    clear h h1
    go_enter Try.func29, Try.ntmps29
    go_wp2_with fail
    refine (HB.out _).mono ?_
    rintro e w1 ⟨rfl, rfl⟩
    rw [hbd.out]
    go_wp2
    go_ret2
    exact ⟨rfl, rfl⟩
  all_goals
    have hbd := hide (decide_eq_true h1)
    clear h h1
    go_enter Try.func29, Try.ntmps29
    go_wp2_with fail
    refine (HB.out _).mono ?_
    rintro e w1 ⟨rfl, rfl⟩
    rw [hbd.out]
    go_wp2
    go_ret2
    exact ⟨rfl, rfl⟩

set_option maxHeartbeats 1000000 in
theorem laterOf_yes (y m d k : Int) (w : World) (h : Valid y m d) (hk : -3000 ≤ k ∧ k ≤ 3000) :
    Calls Try.prog 29 #[.int .i64 (num y m d), .int .i64 k] w fun e w' => e = .returned (.tuple #[.int .i64 (laterV y m d k).1, .int .i64 (laterV y m d k).2]) ∧ Below w.heap.size w w' := by
  have hn := valid_num h
  have hh := h
  obtain ⟨hy1, hy2, hm1, hm2, hd1, hd2⟩ := hh
  obtain ⟨n, hn'⟩ : ∃ n, n = num y m d := ⟨_, rfl⟩
  obtain ⟨Y, hY⟩ : ∃ Y, Y = (12 * y + m - 1 + k) / 12 := ⟨_, rfl⟩
  obtain ⟨M, hM⟩ : ∃ M, M = (12 * y + m - 1 + k) % 12 + 1 := ⟨_, rfl⟩
  have hL : laterV y m d k = dayV Y M (if md Y M < d then md Y M else d) := by rw [hY, hM]; rfl
  have fs := first_same Y M (by omega) (by omega) (by omega) (by omega)
  have e1 : dat (y + (m + k - 1) / 12) (m + k - 12 * ((m + k - 1) / 12)) 1 = dat Y M 1 := by congr 1 <;> omega
  have e2 : dat (y + (m + k + 1 - 1) / 12) (m + k + 1 - 12 * ((m + k + 1 - 1) / 12)) 1 = dat Y M 1 + md Y M := by
    by_cases h12 : M = 12
    · rw [if_pos h12] at fs
      have : dat (y + (m + k + 1 - 1) / 12) (m + k + 1 - 12 * ((m + k + 1 - 1) / 12)) 1 = dat (Y + 1) 1 1 := by congr 1 <;> omega
      rw [this]; omega
    · rw [if_neg h12] at fs
      have : dat (y + (m + k + 1 - 1) / 12) (m + k + 1 - 12 * ((m + k + 1 - 1) / 12)) 1 = dat Y (M + 1) 1 := by congr 1 <;> omega
      rw [this]; omega
  have hdr := dat_range Y M 1 (by omega) (by omega) (by omega) (by omega) (by omega) (by omega)
  have hmr := md_range Y M
  obtain ⟨t, ht⟩ : ∃ t, t = dat Y M 1 := ⟨_, rfl⟩
  rw [← ht] at hdr fs e1 e2
  have HO := hide (fun W => dateOfDay_any y m d W h)
  have HB := hide (fun W => isDay_any n W)
  have hbd := hide (decide_eq_true hn)
  have HD1 := hide (fun W => dateOf_any y (m + k) 1 W (by omega) (by omega) (by omega) (by omega) (by omega) (by omega) (by omega))
  have HD2 := hide (fun W => dateOf_any y (m + k + 1) 1 W (by omega) (by omega) (by omega) (by omega) (by omega) (by omega) (by omega))
  have HP := hide (fun W => parts_any t W (by omega) (by omega) (inY_pos t))
  rw [hL, ← hn']
  rw [← hn'] at hn hbd
  rw [← hn'] at HO
  obtain ⟨q, hq⟩ : ∃ q, q = md Y M := ⟨_, rfl⟩
  rw [← hq] at hmr e2 ⊢
  have HE := hide (And.intro e1 (And.intro e2 fs))
  clear e1 e2 fs hL hY hM ht hn' h hq
  go_enter Try.func29, Try.ntmps29
  go_wp2_with fail
  refine (HB.out _).mono ?_
  rintro e w1 ⟨rfl, rfl⟩
  rw [hbd.out]
  go_wp2_with fail
  refine (HO.out _).mono ?_
  rintro e w1 ⟨rfl, rfl⟩
  go_wp2_with fail
  refine (HD1.out _).mono ?_
  rintro e w1 ⟨rfl, hb1⟩
  rw [HE.out.1]
  go_wp2_with fail
  refine (HD2.out _).mono ?_
  rintro e w2 ⟨rfl, hb2⟩
  rw [HE.out.2.1]
  go_wp2_with fail
  refine (HP.out _).mono ?_
  rintro e w3 ⟨rfl, rfl⟩
  rw [HE.out.2.2.1, HE.out.2.2.2.1]
  by_cases hmin : q < d
  · have HM : Hid ((if q < d then q else d) = q) := hide (if_pos hmin)
    have hmin' : t + q - t < d := by omega
    go_wp2_with fail
    rw [show (t + q - t) = q from by omega]
    refine (rDayOf_any _ _ _ _).mono ?_
    rintro e w4 ⟨rfl, hb4⟩
    go_wp2
    go_ret2
    exact ⟨by first | rfl | (rw [HM.out]; rfl), (hb1.trans (hb2.mono hb1.size)).trans (hb4.mono (Nat.le_trans hb1.size hb2.size))⟩
  · have HM : Hid ((if q < d then q else d) = d) := hide (if_neg hmin)
    have hmin' : ¬ t + q - t < d := by omega
    go_wp2_with fail
    refine (rDayOf_any _ _ _ _).mono ?_
    rintro e w4 ⟨rfl, hb4⟩
    go_wp2
    go_ret2
    exact ⟨by first | rfl | (rw [HM.out]; rfl), (hb1.trans (hb2.mono hb1.size)).trans (hb4.mono (Nat.le_trans hb1.size hb2.size))⟩
end Go.Proofs.Ytbfldfnmamdofaa.days
