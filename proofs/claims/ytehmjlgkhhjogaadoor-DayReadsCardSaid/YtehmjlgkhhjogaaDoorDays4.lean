/-
  What the reference answers of dates, and that it is what the program answers; months added.
-/
import Derived.Test.YtehmjlgkhhjogaaDoorDays3
namespace Go.Proofs.YtehmjlgkhhjogaaDoor.days
open Go.RowKit Go.Proofs.YtehmjlgkhhjogaaDoor.cal
set_option linter.unusedVariables false

theorem inY_nonneg {n : Int} (h0 : 0 ≤ n) (h1 : n ≤ 146096) : 0 ≤ inY n := by
  unfold inY
  have hy := yr_range h0 h1
  have hq : yr n * 365 ≤ n - n / 1460 + n / 36524 - n / 146096 := by unfold yr; omega
  obtain ⟨q, hq'⟩ : ∃ q, q = yr n := ⟨_, rfl⟩
  rw [← hq'] at hy hq ⊢
  clear hq'
  obtain ⟨c, hc⟩ : ∃ c, c = q / 100 := ⟨_, rfl⟩
  rw [← hc]
  rcases (by omega : c = 0 ∨ c = 1 ∨ c = 2 ∨ c = 3 ∨ c = 4) with h | h | h | h | h <;> subst h <;> rcases (by omega : n < 36524 ∨ (36524 ≤ n ∧ n < 73048) ∨ (73048 ≤ n ∧ n < 109572) ∨ (109572 ≤ n ∧ n < 146096) ∨ n = 146096) with h | h | h | h | h <;> omega

theorem inY_pos (t : Int) : 0 ≤ inY (rest t) := inY_nonneg (rest_range t).1 (rest_range t).2

theorem valid_num {y m d : Int} (h : Valid y m d) : 0 ≤ num y m d ∧ num y m d ≤ 84005 := by
  obtain ⟨hy1, hy2, hm1, hm2, hd1, hd2⟩ := h
  obtain ⟨k, hk⟩ : ∃ k : Nat, m = (k : Int) + 1 := ⟨(m - 1).toNat, by omega⟩
  subst hk
  have hc := cum_range y k
  have h12 : cum y k + md y ((k : Int) + 1) ≤ yd y := by
    rw [← cum_year y]
    show cum y (k + 1) ≤ _
    have hmono : ∀ j, cum y j ≤ cum y (j + 1) := fun j => by have := md_range y ((j : Int) + 1); simp only [cum]; omega
    have key : ∀ i, cum y (k + 1) ≤ cum y (k + 1 + i) := by
      intro i
      induction i with
      | zero => exact Int.le_refl _
      | succ i ih => exact Int.le_trans ih (hmono _)
    have := key (11 - k)
    rwa [show k + 1 + (11 - k) = 12 from by omega] at this
  have hy : yd y ≤ 366 ∧ 365 ≤ yd y := by unfold yd; split <;> omega
  have hbf : 0 ≤ bf y ∧ bf y + yd y ≤ 84006 := by
    rcases (by omega : y = 2199 ∨ y < 2199) with h | h
    · subst h
      have h1 : bf 2199 = 83641 := by decide
      have h2 : yd 2199 = 365 := by decide
      omega
    · have : bf y ≤ bf 2198 := by unfold bf; omega
      have h1 : bf 2198 = 83276 := by decide
      refine ⟨by unfold bf; omega, by omega⟩
  unfold num
  rw [show ((k : Int) + 1 - 1).toNat = k from by omega]
  omega

theorem dat_range (y m d : Int) (hy1 : 1700 ≤ y) (hy2 : y ≤ 2500) (hm1 : 1 ≤ m) (hm2 : m ≤ 13) (hd1 : 0 ≤ d) (hd2 : d ≤ 40) : -200000 ≤ dat y m d ∧ dat y m d ≤ 200000 := by
  have := tabs_range (m - 1).toNat
  unfold dat yday
  split <;> omega

/-- The reference's answer of a date. -/
theorem rDayOf_any (y m d : Int) (w : World) :
    Calls Tryd.prog 35 #[.int .i64 y, .int .i64 m, .int .i64 d] w fun e w' => e = .returned (.tuple #[.int .i64 (dayV y m d).1, .int .i64 (dayV y m d).2]) ∧ Below w.heap.size w w' := by
  by_cases h0 : 1970 ≤ y ∧ y ≤ 2199 ∧ 1 ≤ m ∧ m ≤ 12 ∧ 1 ≤ d ∧ d ≤ 31
  · obtain ⟨hy1, hy2, hm1, hm2, hd1, hd2⟩ := h0
    obtain ⟨t, ht⟩ : ∃ t, t = dat y m d := ⟨_, rfl⟩
    have hdr := dat_range y m d (by omega) (by omega) (by omega) (by omega) (by omega) (by omega)
    have hq : (m - 1) / 12 = 0 := by omega
    have HD := hide (fun W => dateOf_any y m d W (by omega) (by omega) (by omega) (by omega) (by omega) (by omega) (by omega))
    have e1 : dat (y + (m - 1) / 12) (m - 12 * ((m - 1) / 12)) d = t := by rw [hq, ht]; congr 1 <;> omega
    rw [← ht] at hdr
    have HN := hide (fun W => number_any t W (by omega) (by omega) (inY_pos t))
    have HE := hide e1
    by_cases hv : Valid y m d
    · have h5 := day_same y m d hy1 hy2 hm1 hm2 hd1 hv.2.2.2.2.2 (by omega)
      have hvv : dayV y m d = (num y m d, 0) := if_pos hv
      have hp : pd t = d := by rw [ht, h5.1]; exact h5.2.2.2
      have hn : num y m d = t + 11323 := by rw [ht, h5.1]; omega
      rw [hvv]
      have HP := hide (And.intro hp hn)
      clear h5 hvv hp hn hv e1 hq ht
      go_enter Tryd.func35, Tryd.ntmps35
      go_wp2_with fail
      refine (HD.out _).mono ?_
      rintro e w1 ⟨rfl, hb⟩
      rw [HE.out]
      go_wp2_with fail
      refine (HN.out _).mono ?_
      rintro e w2 ⟨rfl, rfl⟩
      rw [HP.out.1]
      go_wp2
      go_ret2
      exact ⟨by rw [HP.out.2]; rfl, hb⟩
    · have hmd : md y m < d := by
        unfold Valid at hv
        omega
      have h5 := day_beyond y m d hy1 hy2 hm1 hm2 hd1 hmd hd2
      have hvv : dayV y m d = (0, 2) := if_neg hv
      obtain ⟨p, hp⟩ : ∃ p, p = pd t := ⟨_, rfl⟩
      have hne : (p != d) = true := by rw [bne_iff_ne, hp, ht]; exact h5
      rw [hvv]
      have HP := hide hp
      clear h5 hvv hp hv e1 hq ht
      go_enter Tryd.func35, Tryd.ntmps35
      go_wp2_with fail
      refine (HD.out _).mono ?_
      rintro e w1 ⟨rfl, hb⟩
      rw [HE.out]
      go_wp2_with fail
      refine (HN.out _).mono ?_
      rintro e w2 ⟨rfl, rfl⟩
      rw [← HP.out]
      go_wp2
      go_ret2
      exact ⟨rfl, hb⟩
  · have hvv : dayV y m d = (0, 2) := by
      refine if_neg (fun h => h0 ?_)
      have := md_range y m
      unfold Valid at h
      omega
    rw [hvv]
    clear hvv
    rcases (by omega : y < 1970 ∨ (1970 ≤ y ∧ 2199 < y) ∨ (1970 ≤ y ∧ y ≤ 2199 ∧ m < 1) ∨ (1970 ≤ y ∧ y ≤ 2199 ∧ 1 ≤ m ∧ 12 < m) ∨ (1970 ≤ y ∧ y ≤ 2199 ∧ 1 ≤ m ∧ m ≤ 12 ∧ d < 1) ∨ (1970 ≤ y ∧ y ≤ 2199 ∧ 1 ≤ m ∧ m ≤ 12 ∧ 1 ≤ d ∧ 31 < d)) with h | h | h | h | h | h
    all_goals
      clear h0
      go_enter Tryd.func35, Tryd.ntmps35
      go_wp2_with fail
      go_ret2
      exact ⟨rfl, Below.refl _ _⟩

end Go.Proofs.YtehmjlgkhhjogaaDoor.days
