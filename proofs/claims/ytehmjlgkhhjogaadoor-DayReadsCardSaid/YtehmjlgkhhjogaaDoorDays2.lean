/-
  The reference's dates.
-/
import Derived.Test.YtehmjlgkhhjogaaDoorDays
import Derived.Test.YtehmjlgkhhjogaaDoorEqInts
namespace Go.Proofs.YtehmjlgkhhjogaaDoor.days
open Go.RowKit Go.Proofs.YtehmjlgkhhjogaaDoor.cal
set_option linter.unusedVariables false

theorem yearDay_any (y : Int) (w : World) (h0 : -100000 ≤ y) (h1 : y ≤ 100000) : Calls Tryd.prog 81 #[.int .i64 y] w fun e w' => e = .returned (.int .i64 (yday y)) ∧ w = w' := by
  go_enter Tryd.func81, Tryd.ntmps81
  go_wp2_with (go_at_call 79; refine (floor_any _ _ _ (by omega) (by omega) (by omega) (by omega)).mono ?_; rintro e w' ⟨rfl, rfl⟩)
  go_ret
  exact ⟨ret_int rfl, rfl⟩

theorem rest_range (t : Int) : 0 ≤ rest t ∧ rest t ≤ 146096 := by unfold rest row; omega
theorem yr_range {n : Int} (h0 : 0 ≤ n) (h1 : n ≤ 146096) : 0 ≤ yr n ∧ yr n ≤ 400 := by unfold yr; omega

set_option maxHeartbeats 1000000 in
theorem parts_any (t : Int) (w : World) (h0 : -400000 ≤ t) (h1 : t ≤ 400000) (hy : 0 ≤ inY (rest t)) :
    Calls Tryd.prog 82 #[.int .i64 t] w fun e w' => e = .returned (.tuple #[.int .i64 (py t), .int .i64 (pm t), .int .i64 (pd t)]) ∧ w = w' := by
  obtain ⟨r, hr⟩ : ∃ r, r = row t := ⟨_, rfl⟩
  have hr0 : 0 ≤ t + 730791 - 146097 * r ∧ t + 730791 - 146097 * r ≤ 146096 := by rw [hr]; exact rest_range t
  have hr1 : -10 ≤ r ∧ r ≤ 10 := by rw [hr]; unfold row; omega
  have hy' := hy
  unfold inY yr rest at hy'
  rw [← hr] at hy'
  have hb : (t + 730791) / 146097 = r := by rw [hr]; rfl
  have HR := hide (And.intro hr (And.intro hb hy))
  clear hr hb hy
  go_enter Tryd.func82, Tryd.ntmps82
  go_wp2_with fail
  refine (floor_any _ _ _ (by omega) (by omega) (by omega) (by omega)).mono ?_
  rintro e w' ⟨rfl, rfl⟩
  rw [HR.out.2.1]
  go_wp2_with fail
  all_goals go_ret3
  · have hlt : 12 < mo (inY (rest t)) + 3 := by unfold mo inY yr rest; rw [← HR.out.1]; assumption
    refine ⟨?_, rfl⟩
    unfold py pm pd
    rw [if_pos hlt, if_pos hlt]
    unfold mo inY yr rest
    rw [← HR.out.1]
    rfl
  · have hlt : ¬ 12 < mo (inY (rest t)) + 3 := by unfold mo inY yr rest; rw [← HR.out.1]; exact Int.not_lt.2 (by assumption)
    refine ⟨?_, rfl⟩
    unfold py pm pd
    rw [if_neg hlt, if_neg hlt]
    unfold mo inY yr rest
    rw [← HR.out.1]
    rfl

theorem number_any (t : Int) (w : World) (h0 : -400000 ≤ t) (h1 : t ≤ 400000) (hy : 0 ≤ inY (rest t)) :
    Calls Tryd.prog 59 #[.int .i64 t] w fun e w' => e = .returned (.int .i64 (pd t)) ∧ w = w' := by
  have H := hide (fun W => parts_any t W h0 h1 hy)
  clear hy
  go_enter Tryd.func59, Tryd.ntmps59
  go_wp2_with fail
  refine (H.out _).mono ?_
  rintro e w' ⟨rfl, rfl⟩
  go_wp2
  go_ret
  exact ⟨rfl, rfl⟩

def tabCells : Array Value := #[.int .i64 31, .int .i64 28, .int .i64 31, .int .i64 30, .int .i64 31, .int .i64 30, .int .i64 31, .int .i64 31, .int .i64 30, .int .i64 31, .int .i64 30, .int .i64 31]
theorem tab_at (w : World) (k : Nat) (hk : k < 12) : (w.alloc (.cells #[.int .i64 31, .int .i64 28, .int .i64 31, .int .i64 30, .int .i64 31, .int .i64 30, .int .i64 31, .int .i64 31, .int .i64 30, .int .i64 31, .int .i64 30, .int .i64 31] 3)).cell? ⟨w.heap.size, k, none⟩ = some (.int .i64 (tab k)) := by
  have h : k = 0 ∨ k = 1 ∨ k = 2 ∨ k = 3 ∨ k = 4 ∨ k = 5 ∨ k = 6 ∨ k = 7 ∨ k = 8 ∨ k = 9 ∨ k = 10 ∨ k = 11 := by omega
  rcases h with h | h | h | h | h | h | h | h | h | h | h | h <;> subst h <;> simp [go_sem, tab]
theorem tab_range (k : Nat) : 28 ≤ tab k ∧ tab k ≤ 31 := by
  unfold tab
  split <;> omega
theorem tabs_range : ∀ k : Nat, 0 ≤ tabs k ∧ tabs k ≤ 31 * k
  | 0 => by simp [tabs]
  | k + 1 => by
    have h1 := tabs_range k
    have h2 := tab_range k
    simp only [tabs]
    omega

def DatRel (m : Nat) (v7 _v9 v26 : Value) : Prop := ∃ k : Nat, k ≤ m ∧ v26 = .int .i64 k ∧ v7 = .int .i64 (tabs k)

set_option maxHeartbeats 1000000 in
set_option maxRecDepth 100000 in
theorem dateOf_any (y m d : Int) (w : World) (hy0 : -10000 ≤ y) (hy1 : y ≤ 10000) (hm0 : -10000 ≤ m) (hm1 : m ≤ 10000) (hd0 : -1000 ≤ d) (hd1 : d ≤ 1000) (hpos : 0 ≤ y + (m - 1) / 12) :
    Calls Tryd.prog 58 #[.int .i64 y, .int .i64 m, .int .i64 d] w fun e w' => e = .returned (.int .i64 (dat (y + (m - 1) / 12) (m - 12 * ((m - 1) / 12)) d)) ∧ Below w.heap.size w w' := by
  obtain ⟨Y, hY⟩ : ∃ Y, Y = y + (m - 1) / 12 := ⟨_, rfl⟩
  obtain ⟨q, hq⟩ : ∃ q, q = (m - 1) / 12 := ⟨_, rfl⟩
  obtain ⟨M, hM⟩ : ∃ M : Nat, m - 12 * q = (M : Int) + 1 := ⟨(m - 12 * q - 1).toNat, by omega⟩
  have hM1 : M ≤ 11 := by omega
  have hY0 : 0 ≤ Y := by omega
  have hY1 : Y ≤ 100000 := by omega
  have hmq : 1 ≤ m - 12 * q ∧ m - 12 * q ≤ 12 := by omega
  have hYq : y + q = Y := by omega
  rw [← hY, ← hq, hM]
  have H := hide (And.intro hq (And.intro hM hYq))
  have hq1 : -1000 ≤ q ∧ q ≤ 1000 := by omega
  have hyr : -10000 ≤ y + q ∧ y + q ≤ 20000 := by omega
  clear hY hpos
  have hq' : (m - 1) / 12 = q := hq.symm
  clear hq hM hYq
  have Hq := hide hq'
  clear hq'
  go_enter Tryd.func58, Tryd.ntmps58
  go_wp2_with (go_at_call 79; refine (floor_any _ _ _ (by omega) (by omega) (by omega) (by omega)).mono ?_; rintro e w' ⟨rfl, rfl⟩; rw [Hq.out])
  have hMn : (m - 12 * q).toNat - 1 = M := by have := H.out.2.1; omega
  have HM := hide hMn
  clear hMn
  go_loop [7, 9, 26] (DatRel ((m - 12 * q).toNat - 1)) (fun _ _ v26 => 100 - (intOf v26).toNat)
  case atStart => exact ⟨0, by omega, rfl, rfl⟩
  case round =>
    obtain ⟨k, hk, rfl, rfl⟩ := hrel
    have ht := tabs_range k
    have ht2 := tab_range k
    have hk11 : k ≤ 11 := by omega
    by_cases hlt : k < (m - 12 * q).toNat - 1
    · have hc := tab_at w k (by omega)
      have hki : (k : Int) < ((m - 12 * q).toNat - 1 : Nat) := by omega
      go_wp2_with fail
      go_round
      case rel => exact ⟨k + 1, by omega, by go_num, rfl⟩
      case measure => simp [intOf]; omega
    · have hkM : k = M := by rw [← HM.out]; omega
      have HK := hide hkM
      clear hkM
      have hyq : 0 ≤ y + q ∧ y + q ≤ 100000 := by rw [H.out.2.2]; exact ⟨hY0, hY1⟩
      have HF : dat Y ((M : Int) + 1) d = yday (y + q) + (tabs k + (if 2 < m - 12 * q ∧ lpB (y + q) then 1 else 0)) + d - 1 := by
        rw [HK.out, H.out.2.2, H.out.2.1]
        unfold dat
        rw [show ((M : Int) + 1 - 1).toNat = M from by omega]
      have HF' := hide HF
      clear HF
      have hyd : -40000000 ≤ yday (y + q) ∧ yday (y + q) ≤ 40000000 := by unfold yday; omega
      by_cases h2 : 2 < m - 12 * q
      · cases hl : lpB (y + q) with
        | true =>
          have HL := hide hl; clear hl
          go_wp2_with (first | (go_at_call 80; refine (rleap_any _ _ (by omega)).mono ?_; rintro e w' ⟨rfl, rfl⟩; rw [HL.out]) | (go_at_call 81; refine (yearDay_any _ _ (by omega) (by omega)).mono ?_; rintro e w' ⟨rfl, rfl⟩))
          go_ret
          exact ⟨ret_int (by rw [HF'.out, HL.out, if_pos ⟨h2, rfl⟩]), (Below.refl _ _).alloc (Nat.le_refl _) _⟩
        | false =>
          have HL := hide hl; clear hl
          go_wp2_with (first | (go_at_call 80; refine (rleap_any _ _ (by omega)).mono ?_; rintro e w' ⟨rfl, rfl⟩; rw [HL.out]) | (go_at_call 81; refine (yearDay_any _ _ (by omega) (by omega)).mono ?_; rintro e w' ⟨rfl, rfl⟩))
          go_ret
          exact ⟨ret_int (by rw [HF'.out, HL.out]; simp), (Below.refl _ _).alloc (Nat.le_refl _) _⟩
      · go_wp2_with (go_at_call 81; refine (yearDay_any _ _ (by omega) (by omega)).mono ?_; rintro e w' ⟨rfl, rfl⟩)
        go_ret
        exact ⟨ret_int (by rw [HF'.out, if_neg (fun h => absurd h.1 (by omega))]; simp), (Below.refl _ _).alloc (Nat.le_refl _) _⟩
end Go.Proofs.YtehmjlgkhhjogaaDoor.days
