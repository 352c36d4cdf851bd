/-
  Days as texts: the two functions that write one; the other answers on a day.
-/
import Derived.Test.YtbfldfnmamdofaaDays6
namespace Go.Proofs.Ytbfldfnmamdofaa.days
open Go.RowKit Go.Proofs.Ytbfldfnmamdofaa.cal
set_option linter.unusedVariables false

theorem date_is {y m d y' m' d' : Int} (h : Valid y m d) (h' : Valid y' m' d') (e : num y' m' d' = num y m d) : y = y' ∧ m = m' ∧ d = d' := by
  have r := md_range y m
  have r' := md_range y' m'
  have h5 := day_same y m d h.1 h.2.1 h.2.2.1 h.2.2.2.1 h.2.2.2.2.1 h.2.2.2.2.2 (by have := h.2.2.2.2.2; omega)
  have h6 := day_same y' m' d' h'.1 h'.2.1 h'.2.2.1 h'.2.2.2.1 h'.2.2.2.2.1 h'.2.2.2.2.2 (by have := h'.2.2.2.2.2; omega)
  rw [e] at h6
  exact ⟨h5.2.1.symm.trans h6.2.1, h5.2.2.1.symm.trans h6.2.2.1, h5.2.2.2.symm.trans h6.2.2.2⟩

/-- The program's date of a day. -/
theorem date_of (y m d : Int) (w : World) (h : Valid y m d) :
    Calls Try.prog 64 #[.int .i64 (num y m d)] w fun e w' => e = .returned (.tuple #[.int .i64 y, .int .i64 m, .int .i64 d]) ∧ w = w' :=
  (date_any (num y m d) w (valid_num h).1 (valid_num h).2).mono fun e w' ⟨⟨y', m', d', he, hv, hn⟩, hw⟩ => by
    obtain ⟨rfl, rfl, rfl⟩ := date_is h hv hn
    exact ⟨he, hw⟩

set_option maxHeartbeats 1000000 in
theorem dayString_any (y m d : Int) (w : World) (h : Valid y m d) :
    Calls Try.prog 67 #[.int .i64 (num y m d)] w fun e w' => e = .returned (.string (strOfNums (dayText y m d))) ∧ Below w.heap.size w w' := by
  have hh := h
  obtain ⟨hy1, hy2, hm1, hm2, hd1, hd2⟩ := hh
  have hr := md_range y m
  have H1 := hide (fun W => date_of y m d W h)
  obtain ⟨n, hn⟩ : ∃ n, n = num y m d := ⟨_, rfl⟩
  rw [← hn] at H1 ⊢
  have s1 := fun w => (text_steps y m d w).1
  have s2 := fun w => (text_steps y m d w).2.1
  have s3 := fun w => (text_steps y m d w).2.2.1
  have s4 := fun w => (text_steps y m d w).2.2.2
  clear hn h
  go_enter Try.func67, Try.ntmps67
  go_wp2_with fail
  refine (H1.out _).mono ?_
  rintro e w1 ⟨rfl, rfl⟩
  go_wp2_with fail
  refine (digits4_any y _ (by omega) (by omega)).mono ?_
  rintro e w1 ⟨rfl, hb1⟩
  go_wp2_with fail
  refine (digits2_any m _ (by omega) (by omega)).mono ?_
  rintro e w2 ⟨rfl, hb2⟩
  go_wp2_with fail
  refine (digits2_any d _ (by omega) (by omega)).mono ?_
  rintro e w3 ⟨rfl, hb3⟩
  go_wp2
  go_ret
  exact ⟨rfl, (hb1.trans (hb2.mono hb1.size)).trans (hb3.mono (Nat.le_trans hb1.size hb2.size))⟩

set_option maxHeartbeats 1000000 in
theorem stringOfDay_any (y m d : Int) (w : World) (h : Valid y m d) :
    Calls Try.prog 35 #[.int .i64 (num y m d)] w fun e w' => e = .returned (.string (strOfNums (dayText y m d))) ∧ Below w.heap.size w w' := by
  have hh := h
  obtain ⟨hy1, hy2, hm1, hm2, hd1, hd2⟩ := hh
  have hr := md_range y m
  have H1 := hide (fun W => dateOfDay_any y m d W h)
  obtain ⟨n, hn⟩ : ∃ n, n = num y m d := ⟨_, rfl⟩
  rw [← hn] at H1 ⊢
  have s1 := fun w => (text_steps y m d w).1
  have s2 := fun w => (text_steps y m d w).2.1
  have s3 := fun w => (text_steps y m d w).2.2.1
  have s4 := fun w => (text_steps y m d w).2.2.2
  clear hn h
  go_enter Try.func35, Try.ntmps35
  go_wp2_with fail
  refine (H1.out _).mono ?_
  rintro e w1 ⟨rfl, rfl⟩
  go_wp2_with fail
  refine (digitsOf4_any y _ (by omega) (by omega)).mono ?_
  rintro e w1 ⟨rfl, hb1⟩
  go_wp2_with fail
  refine (digitsOf2_any m _ (by omega) (by omega)).mono ?_
  rintro e w2 ⟨rfl, hb2⟩
  go_wp2_with fail
  refine (digitsOf2_any d _ (by omega) (by omega)).mono ?_
  rintro e w3 ⟨rfl, hb3⟩
  go_wp2
  go_ret
  exact ⟨rfl, (hb1.trans (hb2.mono hb1.size)).trans (hb3.mono (Nat.le_trans hb1.size hb2.size))⟩

theorem DayString_yes (y m d : Int) (w : World) (h : Valid y m d) :
    Calls Try.prog 30 #[.int .i64 (num y m d)] w fun e w' => e = .returned (.tuple #[.string (strOfNums (dayText y m d)), .int .i64 0]) ∧ Below w.heap.size w w' := by
  have H1 := hide (fun W => dayString_any y m d W h)
  have hb := valid_num h
  obtain ⟨n, hn⟩ : ∃ n, n = num y m d := ⟨_, rfl⟩
  rw [← hn] at H1 hb ⊢
  have HB := hide (fun W => badDay_any n W)
  have hbd := hide (decide_eq_false (show ¬ (n < 0 ∨ 84005 < n) by omega))
  clear hn h
  go_enter Try.func30, Try.ntmps30
  go_wp2_with fail
  refine (HB.out _).mono ?_
  rintro e w1 ⟨rfl, rfl⟩
  rw [hbd.out]
  go_wp2_with fail
  refine (H1.out _).mono ?_
  rintro e w1 ⟨rfl, hb1⟩
  go_wp2
  go_ret2
  exact ⟨rfl, hb1⟩

theorem Weekday_yes (n : Int) (w : World) (h0 : 0 ≤ n) (h1 : n ≤ 84005) :
    Calls Try.prog 32 #[.int .i64 n] w fun e w' => e = .returned (.tuple #[.int .i64 ((n + 3) % 7), .int .i64 0]) ∧ w = w' := by
  have HB := hide (fun W => badDay_any n W)
  have hbd := hide (decide_eq_false (show ¬ (n < 0 ∨ 84005 < n) by omega))
  go_enter Try.func32, Try.ntmps32
  go_wp2_with fail
  refine (HB.out _).mono ?_
  rintro e w1 ⟨rfl, rfl⟩
  rw [hbd.out]
  go_wp2
  go_ret2
  exact ⟨rfl, rfl⟩

theorem weekdayOf_any (n : Int) (w : World) (h0 : 0 ≤ n) (h1 : n ≤ 84005) :
    Calls Try.prog 36 #[.int .i64 n] w fun e w' => e = .returned (.int .i64 ((n + 3) % 7)) ∧ w = w' := by
  go_enter Try.func36, Try.ntmps36
  go_wp2_with fail
  refine (weekday_any _ _ (by omega) (by omega)).mono ?_
  rintro e w1 ⟨rfl, rfl⟩
  rw [show (n - 11323) % 7 = (n + 3) % 7 from by omega]
  go_wp2
  go_ret
  exact ⟨rfl, rfl⟩

theorem results_tmp4 {fn : Func} {t u v x : Tmp} (h : fn.results = #[.tmp t, .tmp u, .tmp v, .tmp x]) (tmps : Array Value) (P : Program) (w : World) :
    (results fn tmps).run P w = .ok (.tuple #[tmps.getD t undef, tmps.getD u undef, tmps.getD v undef, tmps.getD x undef]) w := by simp [results, h]

theorem Date_yes (y m d : Int) (w : World) (h : Valid y m d) :
    Calls Try.prog 31 #[.int .i64 (num y m d)] w fun e w' => e = .returned (.tuple #[.int .i64 y, .int .i64 m, .int .i64 d, .int .i64 0]) ∧ w = w' := by
  have H1 := hide (fun W => date_of y m d W h)
  have hb := valid_num h
  obtain ⟨n, hn⟩ : ∃ n, n = num y m d := ⟨_, rfl⟩
  rw [← hn] at H1 hb ⊢
  have HB := hide (fun W => badDay_any n W)
  have hbd := hide (decide_eq_false (show ¬ (n < 0 ∨ 84005 < n) by omega))
  clear hn h
  go_enter Try.func31, Try.ntmps31
  go_wp2_with fail
  refine (HB.out _).mono ?_
  rintro e w1 ⟨rfl, rfl⟩
  rw [hbd.out]
  go_wp2_with fail
  refine (H1.out _).mono ?_
  rintro e w1 ⟨rfl, rfl⟩
  go_wp2
  refine bodyPost_ret (results_tmp4 rfl _ _ _) rfl ?_
  exact ⟨rfl, rfl⟩

theorem DayString_no (n : Int) (w : World) (h : n < 0 ∨ 84005 < n) :
    Calls Try.prog 30 #[.int .i64 n] w fun e w' => e = .returned (.tuple #[.string ⟨#[]⟩, .int .i64 2]) ∧ w = w' := by
  have HB := hide (fun W => badDay_any n W)
  have hbd := hide (decide_eq_true h)
  clear h
  go_enter Try.func30, Try.ntmps30
  go_wp2_with fail
  refine (HB.out _).mono ?_
  rintro e w1 ⟨rfl, rfl⟩
  rw [hbd.out]
  go_wp2
  go_ret2
  exact ⟨rfl, rfl⟩

theorem Weekday_no (n : Int) (w : World) (h : n < 0 ∨ 84005 < n) :
    Calls Try.prog 32 #[.int .i64 n] w fun e w' => e = .returned (.tuple #[.int .i64 0, .int .i64 2]) ∧ w = w' := by
  have HB := hide (fun W => badDay_any n W)
  have hbd := hide (decide_eq_true h)
  clear h
  go_enter Try.func32, Try.ntmps32
  go_wp2_with fail
  refine (HB.out _).mono ?_
  rintro e w1 ⟨rfl, rfl⟩
  rw [hbd.out]
  go_wp2
  go_ret2
  exact ⟨rfl, rfl⟩

theorem Date_no (n : Int) (w : World) (h : n < 0 ∨ 84005 < n) :
    Calls Try.prog 31 #[.int .i64 n] w fun e w' => e = .returned (.tuple #[.int .i64 0, .int .i64 0, .int .i64 0, .int .i64 2]) ∧ w = w' := by
  have HB := hide (fun W => badDay_any n W)
  have hbd := hide (decide_eq_true h)
  clear h
  go_enter Try.func31, Try.ntmps31
  go_wp2_with fail
  refine (HB.out _).mono ?_
  rintro e w1 ⟨rfl, rfl⟩
  rw [hbd.out]
  go_wp2
  refine bodyPost_ret (results_tmp4 rfl _ _ _) rfl ?_
  exact ⟨rfl, rfl⟩
end Go.Proofs.Ytbfldfnmamdofaa.days
