/-
  Parts of paths: tree.isPart; the reference's IsPart.
-/
import Derived.Test.YtelddhhhgjfmeaaDoorBuf
import Derived.Test.YtelddhhhgjfmeaaDoorShelf
import Derived.Shelf.Strings.SlTrimAscii
import Derived.BigQuiet
import Derived.Deep.QuietTactic
import Derived.WalkLawsBesides
namespace Go.Proofs.YtelddhhhgjfmeaaDoor
open Go.RowKit
set_option linter.unusedVariables false

def small (c : Int) : Bool := decide (97 ≤ c ∧ c ≤ 122)
def digB (c : Int) : Bool := decide (48 ≤ c ∧ c ≤ 57)
def pbyte (c : Int) : Bool := small c || digB c || decide (c = 45) || decide (c = 95) || decide (c = 46)
/-- A part of a path. -/
def partB (s : ByteArray) : Bool := !s.toList.isEmpty && (decide (s.size ≤ 40) && (!(s.toList == [46]) && (!(s.toList == [46, 46]) && s.data.toList.all fun b => pbyte b.toNat)))
theorem idx_str {s : ByteArray} {k : Nat} (hk : k < s.size) (w : World) : (Instr.index 9 (.string s) (.int .i64 k)).run Tryd.prog w = .ok (.int .u8 ((s[k]).toNat : Int)) w := by
  rw [run_index_string w 9 s .i64 k Tryd.underlying9, dif_pos ⟨by omega, by omega⟩]
  simp
theorem all_take_snoc {s : ByteArray} {k : Nat} (hk : k < s.size) {p : UInt8 → Bool} (h : ∀ b ∈ s.data.toList.take k, p b = true) (hp : p s[k] = true) : ∀ b ∈ s.data.toList.take (k + 1), p b = true := by
  intro b hb
  rw [List.take_succ_eq_append_getElem (by simpa using hk)] at hb
  rcases List.mem_append.1 hb with hb | hb
  · exact h b hb
  · simp at hb
    rw [hb]
    exact hp
theorem all_end {s : ByteArray} {k : Nat} (hk : s.size ≤ k) {p : UInt8 → Bool} (h : ∀ b ∈ s.data.toList.take k, p b = true) : s.data.toList.all p = true := by
  rw [List.take_of_length_le (by simp; exact hk)] at h
  exact List.all_eq_true.2 h
theorem all_fail {s : ByteArray} {k : Nat} (hk : k < s.size) {p : UInt8 → Bool} (hp : p s[k] = false) : s.data.toList.all p = false := by
  rw [List.all_eq_false]
  exact ⟨s[k], by simp [ByteArray.getElem_eq_getElem_data], by simp [hp]⟩

theorem isSmall_any (c : Int) (w : World) : Calls Tryd.prog 175 #[.int .u8 c] w fun e w' => e = .returned (.bool (small c)) ∧ w = w' := by
  rcases (by omega : c < 97 ∨ (97 ≤ c ∧ 122 < c) ∨ (97 ≤ c ∧ c ≤ 122)) with h | ⟨h, h1⟩ | ⟨h, h1⟩
  · have HV := hide (show small c = false by unfold small; simp; omega)
    have h' : ¬ 97 ≤ c := by omega
    go_enter Tryd.func175, Tryd.ntmps175
    go_wp2
    go_ret
    exact ⟨by rw [HV.out] <;> rfl, rfl⟩
  · have HV := hide (show small c = false by unfold small; simp; omega)
    have h' : ¬ c ≤ 122 := by omega
    go_enter Tryd.func175, Tryd.ntmps175
    go_wp2
    go_ret
    exact ⟨by rw [HV.out] <;> rfl, rfl⟩
  · have HV := hide (show small c = true by unfold small; simp; omega)
    go_enter Tryd.func175, Tryd.ntmps175
    go_wp2
    go_ret
    exact ⟨by rw [HV.out] <;> rfl, rfl⟩

theorem isDigit_any (c : Int) (w : World) : Calls Tryd.prog 176 #[.int .u8 c] w fun e w' => e = .returned (.bool (digB c)) ∧ w = w' := by
  rcases (by omega : c < 48 ∨ (48 ≤ c ∧ 57 < c) ∨ (48 ≤ c ∧ c ≤ 57)) with h | ⟨h, h1⟩ | ⟨h, h1⟩
  · have HV := hide (show digB c = false by unfold digB; simp; omega)
    have h' : ¬ 48 ≤ c := by omega
    go_enter Tryd.func176, Tryd.ntmps176
    go_wp2
    go_ret
    exact ⟨by rw [HV.out] <;> rfl, rfl⟩
  · have HV := hide (show digB c = false by unfold digB; simp; omega)
    have h' : ¬ c ≤ 57 := by omega
    go_enter Tryd.func176, Tryd.ntmps176
    go_wp2
    go_ret
    exact ⟨by rw [HV.out] <;> rfl, rfl⟩
  · have HV := hide (show digB c = true by unfold digB; simp; omega)
    go_enter Tryd.func176, Tryd.ntmps176
    go_wp2
    go_ret
    exact ⟨by rw [HV.out] <;> rfl, rfl⟩

def PartRel (s : ByteArray) (v : Value) : Prop := ∃ k : Nat, k ≤ s.size ∧ v = .int .i64 k ∧ ∀ b ∈ s.data.toList.take k, pbyte b.toNat = true

set_option maxHeartbeats 1000000 in
theorem isPart_any (s : ByteArray) (w : World) (hs : s.size ≤ 9223372036854775807) : Calls Tryd.prog 153 #[.string s] w fun e w' => e = .returned (.bool (partB s)) ∧ w = w' := by
  obtain ⟨R, hR⟩ : ∃ R, R = partB s := ⟨_, rfl⟩
  rw [← hR]
  unfold partB at hR
  by_cases h0 : s.toList = []
  · have HR := hide (show R = false by rw [hR, h0]; rfl)
    clear hR
    go_enter Tryd.func153, Tryd.ntmps153
    go_wp2
    go_ret
    exact ⟨by rw [HR.out] <;> rfl, rfl⟩
  · have h0' : s.toList.isEmpty = false := by cases h : s.toList with | nil => exact absurd h h0 | cons => rfl
    rw [h0'] at hR
    by_cases h1 : 40 < s.size
    · have HR := hide (show R = false by rw [hR, decide_eq_false (by omega)]; rfl)
      have h1' : (40 : Int) < s.size := by omega
      clear hR
      go_enter Tryd.func153, Tryd.ntmps153
      go_wp2
      go_ret
      exact ⟨by rw [HR.out] <;> rfl, rfl⟩
    · have h1' : ¬ (40 : Int) < s.size := by omega
      rw [decide_eq_true (show s.size ≤ 40 by omega)] at hR
      cases h2 : s.toList == [46]
      · cases h3 : s.toList == [46, 46]
        · rw [h2, h3] at hR
          have HR : Hid (R = s.data.toList.all fun b => pbyte b.toNat) := by
            show R = _
            rw [hR]; simp
          have h2' : ¬ s.toList = [46] := by simpa using h2
          have h3' : ¬ s.toList = [46, 46] := by simpa using h3
          clear hR
          go_enter Tryd.func153, Tryd.ntmps153
          go_wp2
          go_loop [3] (PartRel s) (fun v => s.size - (intOf v).toNat)
          case atStart => exact ⟨0, by omega, rfl, fun b hb => by simp at hb⟩
          case round =>
            obtain ⟨k, hk, rfl, hall⟩ := hrel
            have HA := hide hall
            clear hall
            by_cases hlt : k < s.size
            · have hix := idx_str hlt
              have HX := hide (fun h => all_take_snoc hlt (p := fun b => pbyte b.toNat) HA.out h)
              have HXN := hide (fun h => all_fail hlt (p := fun b => pbyte b.toNat) h)
              have HC1 := hide (fun w => isSmall_any (s[k].toNat : Int) w)
              have HC2 := hide (fun w => isDigit_any (s[k].toNat : Int) w)
              obtain ⟨c, hc⟩ : ∃ c : Int, c = (s[k].toNat : Int) := ⟨_, rfl⟩
              simp only [← hc] at hix HX HXN HC1 HC2
              clear hc
              have hki : (k : Int) < s.size := by omega
              cases c1 : small c
              · have HS : Hid (∀ w, Calls Tryd.prog 175 #[.int .u8 c] w fun e w' => e = .returned (.bool false) ∧ w = w') := by rw [c1] at HC1; exact HC1
                cases c2 : digB c
                · have HD : Hid (∀ w, Calls Tryd.prog 176 #[.int .u8 c] w fun e w' => e = .returned (.bool false) ∧ w = w') := by rw [c2] at HC2; exact HC2
                  clear HC1 HC2
                  by_cases c3 : c = 45
                  · have HP := hide (show pbyte c = true by simp [pbyte, c3])
                    clear c1 c2
                    subst c3
                    go_wp2_with (first
                      | (go_at_call 175; refine (HS.out _).mono ?_; rintro e w' ⟨rfl, rfl⟩)
                      | (go_at_call 176; refine (HD.out _).mono ?_; rintro e w' ⟨rfl, rfl⟩))
                    go_round
                    case rel => exact ⟨k + 1, by omega, by go_num, HX.out HP.out⟩
                    case measure => simp [intOf]; omega
                  · have d3 : (c == 45) = false := by simpa using c3
                    by_cases c4 : c = 95
                    · have HP := hide (show pbyte c = true by simp [pbyte, c4])
                      clear c1 c2 c3
                      subst c4
                      go_wp2_with (first
                        | (go_at_call 175; refine (HS.out _).mono ?_; rintro e w' ⟨rfl, rfl⟩)
                        | (go_at_call 176; refine (HD.out _).mono ?_; rintro e w' ⟨rfl, rfl⟩))
                      go_round
                      case rel => exact ⟨k + 1, by omega, by go_num, HX.out HP.out⟩
                      case measure => simp [intOf]; omega
                    · have d4 : (c == 95) = false := by simpa using c4
                      by_cases c5 : c = 46
                      · have HP := hide (show pbyte c = true by simp [pbyte, c5])
                        clear c1 c2 c3 c4
                        subst c5
                        go_wp2_with (first
                          | (go_at_call 175; refine (HS.out _).mono ?_; rintro e w' ⟨rfl, rfl⟩)
                          | (go_at_call 176; refine (HD.out _).mono ?_; rintro e w' ⟨rfl, rfl⟩))
                        go_round
                        case rel => exact ⟨k + 1, by omega, by go_num, HX.out HP.out⟩
                        case measure => simp [intOf]; omega
                      · have d5 : (c == 46) = false := by simpa using c5
                        have d5' : (c != 46) = true := by simpa using c5
                        have d6 : ¬ c = 46 := c5
                        have HP := hide (show pbyte c = false by simp [pbyte, c1, c2, c3, c4, c5])
                        clear c1 c2
                        have d3' : (c != 45) = true := by simpa using c3
                        have d4' : (c != 95) = true := by simpa using c4
                        go_wp2_with (first
                          | (go_at_call 175; refine (HS.out _).mono ?_; rintro e w' ⟨rfl, rfl⟩)
                          | (go_at_call 176; refine (HD.out _).mono ?_; rintro e w' ⟨rfl, rfl⟩))
                        go_ret
                        exact ⟨by rw [HR.out, HXN.out HP.out] <;> rfl, rfl⟩
                · have HD : Hid (∀ w, Calls Tryd.prog 176 #[.int .u8 c] w fun e w' => e = .returned (.bool true) ∧ w = w') := by rw [c2] at HC2; exact HC2
                  have HP := hide (show pbyte c = true by simp [pbyte, c2])
                  clear HC1 HC2 c1 c2
                  go_wp2_with (first
                    | (go_at_call 175; refine (HS.out _).mono ?_; rintro e w' ⟨rfl, rfl⟩)
                    | (go_at_call 176; refine (HD.out _).mono ?_; rintro e w' ⟨rfl, rfl⟩))
                  go_round
                  case rel => exact ⟨k + 1, by omega, by go_num, HX.out HP.out⟩
                  case measure => simp [intOf]; omega
              · have HS : Hid (∀ w, Calls Tryd.prog 175 #[.int .u8 c] w fun e w' => e = .returned (.bool true) ∧ w = w') := by rw [c1] at HC1; exact HC1
                have HP := hide (show pbyte c = true by simp [pbyte, c1])
                have HD := HC2
                clear HC1 HC2 c1
                go_wp2_with (first
                  | (go_at_call 175; refine (HS.out _).mono ?_; rintro e w' ⟨rfl, rfl⟩)
                  | (go_at_call 176; refine (HD.out _).mono ?_; rintro e w' ⟨rfl, rfl⟩))
                go_round
                case rel => exact ⟨k + 1, by omega, by go_num, HX.out HP.out⟩
                case measure => simp [intOf]; omega
            · have hfull := hide (all_end (show s.size ≤ k by omega) HA.out)
              go_wp2
              go_ret
              exact ⟨by rw [HR.out, hfull.out] <;> rfl, rfl⟩
        · have HR := hide (show R = false by rw [hR, h3]; simp)
          have h3' : s.toList = [46, 46] := by simpa using h3
          clear hR h0 h0' h2 h3
          go_enter Tryd.func153, Tryd.ntmps153
          go_wp2
          go_ret
          exact ⟨by rw [HR.out] <;> rfl, rfl⟩
      · have HR := hide (show R = false by rw [hR, h2]; simp)
        have h2' : s.toList = [46] := by simpa using h2
        clear hR h0 h0' h2
        go_enter Tryd.func153, Tryd.ntmps153
        go_wp2
        go_ret
        exact ⟨by rw [HR.out] <;> rfl, rfl⟩
end Go.Proofs.YtelddhhhgjfmeaaDoor
