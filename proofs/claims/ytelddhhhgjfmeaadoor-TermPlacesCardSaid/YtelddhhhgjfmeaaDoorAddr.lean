/-
  Addresses: tree.isAddress, CheckAddress, the reference's IsAddress; list.isPart.
-/
import Derived.Test.YtelddhhhgjfmeaaDoorPath3
import Derived.WalkSpells
namespace Go.Proofs.YtelddhhhgjfmeaaDoor
open Go.RowKit
set_option linter.unusedVariables false

/-- A string's byte at a place; 0 behind its end. -/
def bt (s : ByteArray) (i : Nat) : Int := if h : i < s.size then ((s[i]).toNat : Int) else 0
theorem bt_idx {s : ByteArray} {k : Nat} (hk : k < s.size) {i : Int} (hi : i = k) (w : World) : (Instr.index 9 (.string s) (.int .i64 i)).run Tryd.prog w = .ok (.int .u8 (bt s k)) w := by
  subst hi
  rw [idx_str hk]
  unfold bt
  rw [dif_pos hk]
def addrB (s : ByteArray) : Bool := (s.toList == [47]) || (decide (2 < s.size) && (decide (bt s 0 = 47) && (decide (bt s (s.size - 1) = 47) && pathB (s.extract 1 (s.size - 1)))))

set_option maxHeartbeats 1000000 in
set_option maxRecDepth 100000 in
theorem isAddress_any (s : ByteArray) (w : World) (hs : s.size ≤ 9223372036854775807) (hML : ML w) : Calls Tryd.prog 82 #[.string s] w fun e w' => e = .returned (.bool (addrB s)) ∧ Below w.heap.size w w' := by
  obtain ⟨R, hR⟩ : ∃ R, R = addrB s := ⟨_, rfl⟩
  rw [← hR]
  unfold addrB at hR
  cases h1 : s.toList == [47]
  · have h1' : ¬ s.toList = [47] := by simpa using h1
    rw [h1, Bool.false_or] at hR
    by_cases h2 : 2 < s.size
    · have h2' : (2 : Int) < s.size := by omega
      rw [decide_eq_true h2, Bool.true_and] at hR
      have i0 := bt_idx (s := s) (k := 0) (by omega) (i := 0) rfl
      have i1 := bt_idx (s := s) (k := s.size - 1) (by omega) (i := (s.size : Int) - 1) (by omega)
      obtain ⟨c0, hc0⟩ : ∃ c, c = bt s 0 := ⟨_, rfl⟩
      obtain ⟨c1, hc1⟩ : ∃ c, c = bt s (s.size - 1) := ⟨_, rfl⟩
      rw [← hc0, ← hc1] at hR
      simp only [← hc0] at i0
      simp only [← hc1] at i1
      clear hc0 hc1
      by_cases h3 : c0 = 47
      · subst h3
        by_cases h4 : c1 = 47
        · subst h4
          have HR := hide (show R = pathB (s.extract 1 (s.size - 1)) by rw [hR]; simp)
          have HP := hide (fun w => isPath_any (s.extract 1 (s.size - 1)) w)
          obtain ⟨q, hq⟩ : ∃ q, q = pathB (s.extract 1 (s.size - 1)) := ⟨_, rfl⟩
          rw [← hq] at HR HP
          clear hR hq
          go_enter Tryd.func82, Tryd.ntmps82
          go_wp2_with (go_at_call 121; refine (HP.out _ hML).mono ?_; rintro e w2 ⟨rfl, hb⟩)
          go_ret
          exact ⟨by rw [HR.out] <;> rfl, hb⟩
        · have HR := hide (show R = false by rw [hR]; simp [h4])
          have h4' : (c1 == 47) = false := by simpa using h4
          clear hR
          go_enter Tryd.func82, Tryd.ntmps82
          go_wp2_with fail
          go_ret
          exact ⟨by rw [HR.out] <;> rfl, Below.refl _ _⟩
      · have HR := hide (show R = false by rw [hR]; simp [h3])
        have h3' : (c0 == 47) = false := by simpa using h3
        clear hR
        go_enter Tryd.func82, Tryd.ntmps82
        go_wp2_with fail
        go_ret
        exact ⟨by rw [HR.out] <;> rfl, Below.refl _ _⟩
    · have HR := hide (show R = false by rw [hR, decide_eq_false h2]; rfl)
      have h2' : ¬ (2 : Int) < s.size := by omega
      clear hR
      go_enter Tryd.func82, Tryd.ntmps82
      go_wp2_with fail
      go_ret
      exact ⟨by rw [HR.out] <;> rfl, Below.refl _ _⟩
  · have h1' : s.toList = [47] := by simpa using h1
    have HR := hide (show R = true by rw [hR, h1]; rfl)
    clear hR h1
    go_enter Tryd.func82, Tryd.ntmps82
    go_wp2_with fail
    go_ret
    exact ⟨by rw [HR.out] <;> rfl, Below.refl _ _⟩

set_option maxHeartbeats 1000000 in
set_option maxRecDepth 100000 in
theorem refIsAddress_any (s : ByteArray) (w : World) (hs : s.size ≤ 9223372036854775807) (hML : ML w) : Calls Tryd.prog 44 #[.string s] w fun e w' => e = .returned (.bool (addrB s)) ∧ Below w.heap.size w w' := by
  obtain ⟨R, hR⟩ : ∃ R, R = addrB s := ⟨_, rfl⟩
  rw [← hR]
  unfold addrB at hR
  cases h1 : s.toList == [47]
  · have h1' : ¬ s.toList = [47] := by simpa using h1
    rw [h1, Bool.false_or] at hR
    by_cases h2 : 2 < s.size
    · have h2' : (2 : Int) < s.size := by omega
      rw [decide_eq_true h2, Bool.true_and] at hR
      have i0 := bt_idx (s := s) (k := 0) (by omega) (i := 0) rfl
      have i1 := bt_idx (s := s) (k := s.size - 1) (by omega) (i := (s.size : Int) - 1) (by omega)
      obtain ⟨c0, hc0⟩ : ∃ c, c = bt s 0 := ⟨_, rfl⟩
      obtain ⟨c1, hc1⟩ : ∃ c, c = bt s (s.size - 1) := ⟨_, rfl⟩
      rw [← hc0, ← hc1] at hR
      simp only [← hc0] at i0
      simp only [← hc1] at i1
      clear hc0 hc1
      by_cases h3 : c0 = 47
      · subst h3
        by_cases h4 : c1 = 47
        · subst h4
          have HR := hide (show R = pathB (s.extract 1 (s.size - 1)) by rw [hR]; simp)
          have HP := hide (fun w => refIsPath_any (s.extract 1 (s.size - 1)) w)
          obtain ⟨q, hq⟩ : ∃ q, q = pathB (s.extract 1 (s.size - 1)) := ⟨_, rfl⟩
          rw [← hq] at HR HP
          clear hR hq
          go_enter Tryd.func44, Tryd.ntmps44
          go_wp2_with (go_at_call 39; refine (HP.out _ hML).mono ?_; rintro e w2 ⟨rfl, hb⟩)
          go_ret
          exact ⟨by rw [HR.out] <;> rfl, hb⟩
        · have HR := hide (show R = false by rw [hR]; simp [h4])
          have h4' : (c1 == 47) = false := by simpa using h4
          clear hR
          go_enter Tryd.func44, Tryd.ntmps44
          go_wp2_with fail
          go_ret
          exact ⟨by rw [HR.out] <;> rfl, Below.refl _ _⟩
      · have HR := hide (show R = false by rw [hR]; simp [h3])
        have h3' : (c0 == 47) = false := by simpa using h3
        clear hR
        go_enter Tryd.func44, Tryd.ntmps44
        go_wp2_with fail
        go_ret
        exact ⟨by rw [HR.out] <;> rfl, Below.refl _ _⟩
    · have HR := hide (show R = false by rw [hR, decide_eq_false h2]; rfl)
      have h2' : ¬ (2 : Int) < s.size := by omega
      clear hR
      go_enter Tryd.func44, Tryd.ntmps44
      go_wp2_with fail
      go_ret
      exact ⟨by rw [HR.out] <;> rfl, Below.refl _ _⟩
  · have h1' : s.toList = [47] := by simpa using h1
    have HR := hide (show R = true by rw [hR, h1]; rfl)
    clear hR h1
    go_enter Tryd.func44, Tryd.ntmps44
    go_wp2_with fail
    go_ret
    exact ⟨by rw [HR.out] <;> rfl, Below.refl _ _⟩

set_option maxHeartbeats 1000000 in
theorem checkAddress_any (s : ByteArray) (w : World) (hs : s.size ≤ 9223372036854775807) (hML : ML w) : Calls Tryd.prog 42 #[.string s] w fun e w' => e = .returned (.int .i64 (if addrB s = true then 0 else 3)) ∧ Below w.heap.size w w' := by
  have HP := hide (fun w => isAddress_any s w hs)
  cases h : addrB s
  · rw [h] at HP
    go_enter Tryd.func42, Tryd.ntmps42
    go_wp2_with (go_at_call 82; refine (HP.out _ hML).mono ?_; rintro e w2 ⟨rfl, hb⟩)
    go_ret
    exact ⟨rfl, hb⟩
  · rw [h] at HP
    go_enter Tryd.func42, Tryd.ntmps42
    go_wp2_with (go_at_call 82; refine (HP.out _ hML).mono ?_; rintro e w2 ⟨rfl, hb⟩)
    go_ret
    exact ⟨rfl, hb⟩

/-! ## A part is a path of one part -/
theorem index_one_none : ∀ (l : List UInt8) (c : UInt8), l.contains c = false → Lib.indexByte l c = -1
  | [], _, _ => rfl
  | b :: l, c, h => by
    simp only [List.contains_cons, Bool.or_eq_false_iff] at h
    unfold Lib.indexByte
    have h1 : (b == c) = false := by have := h.1; rw [Bool.beq_eq_decide_eq] at this ⊢; simp at this ⊢; exact fun e => this e.symm
    rw [if_neg (by simp [h1]), index_one_none l c h.2]
    rfl
theorem pcs_one {s : ByteArray} (h : s.data.toList.contains 47 = false) : pcs s ⟨#[47]⟩ = [s] := by
  have hi : Lib.indexB s ⟨#[47]⟩ = -1 := by
    show Lib.index s.data.toList [47] = -1
    rw [Lib.index_one]
    exact index_one_none _ _ h
  unfold pcs
  rw [Lib.countB_miss s _ hi, Lib.splitB_zero]
theorem part_no_slash {s : ByteArray} (h : s.data.toList.contains 47 = true) : partB s = false := by
  have h1 : s.data.toList.all (fun b => pbyte b.toNat) = false := by
    rw [List.all_eq_false]
    rw [List.contains_iff_mem] at h
    exact ⟨47, h, by decide⟩
  unfold partB
  rw [h1]
  simp
theorem path_one {s : ByteArray} (h : s.data.toList.contains 47 = false) : pathB s = partB s := by
  unfold pathB
  rw [pcs_one h]
  simp only [List.all_cons, List.all_nil, Bool.and_true]
  by_cases h2 : s.size ≤ 200
  · rw [decide_eq_true h2, Bool.true_and]
  · rw [decide_eq_false h2, Bool.false_and]
    unfold partB
    rw [decide_eq_false (show ¬ s.size ≤ 40 by omega)]
    simp

def SlRel (s : ByteArray) (v : Value) : Prop := ∃ k : Nat, k ≤ s.size ∧ v = .int .i64 k ∧ ∀ b ∈ s.data.toList.take k, (b != 47) = true
set_option maxHeartbeats 1000000 in
theorem listIsPart_any (s : ByteArray) (w : World) (hs : s.size ≤ 9223372036854775807) (hML : ML w) : Calls Tryd.prog 43 #[.string s] w fun e w' => e = .returned (.bool (partB s)) ∧ Below w.heap.size w w' := by
  obtain ⟨R, hR⟩ : ∃ R, R = partB s := ⟨_, rfl⟩
  have HP := hide (fun w => checkPath_any s w)
  have HY := hide (fun (h : s.data.toList.contains 47 = true) => hR.trans (part_no_slash h))
  have HN := hide (fun (h : s.data.toList.contains 47 = false) => (path_one h).trans hR.symm)
  obtain ⟨q, hq⟩ : ∃ q, q = pathB s := ⟨_, rfl⟩
  rw [← hR]
  rw [← hq] at HP HN
  clear hR hq
  go_enter Tryd.func43, Tryd.ntmps43
  go_wp2
  go_loop [3] (SlRel s) (fun v => s.size - (intOf v).toNat)
  case atStart => exact ⟨0, by omega, rfl, fun b hb => by simp at hb⟩
  case round =>
    obtain ⟨k, hk, rfl, hall⟩ := hrel
    have HA := hide hall
    clear hall
    by_cases hlt : k < s.size
    · have hix := idx_str hlt
      have hki : (k : Int) < s.size := by omega
      have HX := hide (fun h => all_take_snoc hlt (p := fun b => b != 47) HA.out h)
      have HM := hide (show s[k] ∈ s.data.toList by simp [ByteArray.getElem_eq_getElem_data])
      have HC : Hid ((s[k].toNat : Int) = 47 ↔ s[k] = 47) := ⟨fun h => by have h1 : s[k].toNat = 47 := by omega
                                                                          exact UInt8.toNat_inj.1 h1, fun h => by rw [h]; rfl⟩
      obtain ⟨b, hb⟩ : ∃ b, b = s[k] := ⟨_, rfl⟩
      simp only [← hb] at hix HX HM HC
      obtain ⟨c, hc⟩ : ∃ c : Int, c = (b.toNat : Int) := ⟨_, rfl⟩
      simp only [← hc] at hix HC
      clear hb hc
      by_cases h47 : c = 47
      · have HR := hide (HY.out (by rw [List.contains_iff_mem]; rw [← HC.out.1 h47]; exact HM.out))
        subst h47
        go_wp2
        go_ret
        exact ⟨by rw [HR.out] <;> rfl, Below.refl _ _⟩
      · have h47' : (c == 47) = false := by simpa using h47
        have HX2 := hide (HX.out (by simp only [bne_iff_ne]; exact fun e => h47 (HC.out.2 e)))
        clear HC
        go_wp2
        go_round
        case rel => exact ⟨k + 1, by omega, by go_num, HX2.out⟩
        case measure => simp [intOf]; omega
    · have HQ := hide (HN.out (by
        have h := HA.out
        rw [List.take_of_length_le (by simp; omega)] at h
        rw [Bool.eq_false_iff]
        intro hc
        rw [List.contains_iff_mem] at hc
        have := h 47 hc
        simp at this))
      cases q
      · go_wp2_with (go_at_call 83; refine (HP.out _ hML).mono ?_; rintro e w2 ⟨rfl, hb⟩)
        go_ret
        exact ⟨by rw [← HQ.out] <;> rfl, hb⟩
      · go_wp2_with (go_at_call 83; refine (HP.out _ hML).mono ?_; rintro e w2 ⟨rfl, hb⟩)
        go_ret
        exact ⟨by rw [← HQ.out] <;> rfl, hb⟩
end Go.Proofs.YtelddhhhgjfmeaaDoor
