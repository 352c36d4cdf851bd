/-
  Paths: the reference's IsPart; tree.isPath, CheckPath; the reference's IsPath.
-/
import Derived.Test.YtelddhhhgjfmeaaDoorPath
namespace Go.Proofs.YtelddhhhgjfmeaaDoor
open Go.RowKit
set_option linter.unusedVariables false

theorem dropWhile_head {α : Type} {p : α → Bool} : ∀ {l : List α} {a : α} {r : List α}, l.dropWhile p = a :: r → p a = false
  | [], _, _, h => by simp at h
  | x :: l, a, r, h => by
    rw [List.dropWhile_cons] at h
    split at h
    · exact dropWhile_head h
    · rename_i hx
      injection h with h _
      subst h
      simpa using hx
theorem dropWhile_nil {α : Type} {p : α → Bool} : ∀ {l : List α}, l.dropWhile p = [] ↔ l.all p = true
  | [] => by simp
  | x :: l => by
    rw [List.dropWhile_cons, List.all_cons]
    split
    · rename_i hx
      rw [hx, dropWhile_nil]
      simp
    · rename_i hx
      simp [hx]
/-- A string is made of bytes of a set just when nothing is left of it behind strings.Trim. -/
theorem trim_nil (l cs : List UInt8) : (Lib.trimS l cs).isEmpty = l.all (cs.contains ·) := by
  rw [Bool.eq_iff_iff, List.isEmpty_iff]
  unfold Lib.trimS Lib.trimLeftS Lib.trimRightS
  rw [dropWhile_nil, List.all_reverse]
  constructor
  · intro h
    cases hd : l.reverse.dropWhile (cs.contains ·) with
    | nil =>
      rw [dropWhile_nil, List.all_reverse] at hd
      exact hd
    | cons a r =>
      have h1 := dropWhile_head hd
      rw [hd, List.all_cons, Bool.and_eq_true] at h
      rw [h1] at h
      cases h.1
  · intro h
    have : l.reverse.dropWhile (cs.contains ·) = [] := by rw [dropWhile_nil, List.all_reverse]; exact h
    rw [this]
    rfl

set_option maxRecDepth 100000 in
/-- strings.Trim at a set of ASCII bytes: what is asked of its answer is whether it is empty. -/
theorem trim_any (s cs : ByteArray) (w : World) (hs : s.size ≤ 9223372036854775807) (hcs : cs.size < 4294967281) (ha : cs.data.toList.all (fun b => decide (b.toNat < 128)) = true) :
    Calls Tryd.prog 84 #[.string s, .string cs] w fun e w' => (∃ x : ByteArray, e = .returned (.string x) ∧ x.toList.isEmpty = s.data.toList.all (cs.data.toList.contains ·)) ∧ Below w.heap.size w w' := by
  have hcon := Any.strings_Trim_laid Tryd.lays160 (by kernel_rfl) s cs w hs hcs (ascii_of_all ha)
  exact Calls.mono hcon fun e w' ⟨he, hb⟩ => ⟨⟨_, he, by rw [ByteArray.toList_eq]; exact trim_nil _ _⟩, hb⟩

theorem pbyte_set : ∀ n : Fin 256, pbyte (n.val : Int) = ([97, 98, 99, 100, 101, 102, 103, 104, 105, 106, 107, 108, 109, 110, 111, 112, 113, 114, 115, 116, 117, 118, 119, 120, 121, 122, 48, 49, 50, 51, 52, 53, 54, 55, 56, 57, 45, 95, 46] : List UInt8).contains (UInt8.ofNat n.val) := by decide +kernel
theorem pbyte_eq (b : UInt8) : pbyte (b.toNat : Int) = ([97, 98, 99, 100, 101, 102, 103, 104, 105, 106, 107, 108, 109, 110, 111, 112, 113, 114, 115, 116, 117, 118, 119, 120, 121, 122, 48, 49, 50, 51, 52, 53, 54, 55, 56, 57, 45, 95, 46] : List UInt8).contains b := by
  have h := pbyte_set ⟨b.toNat, b.toNat_lt⟩
  simp only [UInt8.ofNat_toNat] at h
  exact h

set_option maxHeartbeats 1000000 in
set_option maxRecDepth 100000 in
theorem refIsPart_any (s : ByteArray) (w : World) (hs : s.size ≤ 9223372036854775807) : Calls Tryd.prog 45 #[.string s] w fun e w' => e = .returned (.bool (partB s)) ∧ Below w.heap.size w w' := by
  obtain ⟨R, hR⟩ : ∃ R, R = partB s := ⟨_, rfl⟩
  rw [← hR]
  unfold partB at hR
  by_cases h0 : s.toList = []
  · have HR := hide (show R = false by rw [hR, h0]; rfl)
    clear hR
    go_enter Tryd.func45, Tryd.ntmps45
    go_wp2
    go_ret
    exact ⟨by rw [HR.out] <;> rfl, Below.refl _ _⟩
  · have h0' : s.toList.isEmpty = false := by cases h : s.toList with | nil => exact absurd h h0 | cons => rfl
    rw [h0'] at hR
    by_cases h1 : 40 < s.size
    · have HR := hide (show R = false by rw [hR, decide_eq_false (by omega)]; rfl)
      have h1' : ¬ (s.size : Int) ≤ 40 := by omega
      clear hR
      go_enter Tryd.func45, Tryd.ntmps45
      go_wp2
      go_ret
      exact ⟨by rw [HR.out] <;> rfl, Below.refl _ _⟩
    · have h1' : (s.size : Int) ≤ 40 := by omega
      rw [decide_eq_true (show s.size ≤ 40 by omega)] at hR
      cases h2 : s.toList == [46]
      · cases h3 : s.toList == [46, 46]
        · rw [h2, h3] at hR
          have HR : Hid (R = s.data.toList.all fun b => ([97, 98, 99, 100, 101, 102, 103, 104, 105, 106, 107, 108, 109, 110, 111, 112, 113, 114, 115, 116, 117, 118, 119, 120, 121, 122, 48, 49, 50, 51, 52, 53, 54, 55, 56, 57, 45, 95, 46] : List UInt8).contains b) := by
            show R = _
            rw [hR]
            simp only [pbyte_eq]
            simp
          have h2' : ¬ s.toList = [46] := by simpa using h2
          have h3' : ¬ s.toList = [46, 46] := by simpa using h3
          have HT := hide (fun w => trim_any s ⟨#[97, 98, 99, 100, 101, 102, 103, 104, 105, 106, 107, 108, 109, 110, 111, 112, 113, 114, 115, 116, 117, 118, 119, 120, 121, 122, 48, 49, 50, 51, 52, 53, 54, 55, 56, 57, 45, 95, 46]⟩ w hs (by decide) (by decide))
          clear hR
          go_enter Tryd.func45, Tryd.ntmps45
          go_wp2_with (go_at_call 84; refine (HT.out _).mono ?_; rintro e w1 ⟨⟨x, rfl, hx⟩, hb⟩; have HXX := hide hx; clear hx)
          go_ret
          exact ⟨by rw [HR.out, ← HXX.out] <;> rfl, hb⟩
        · have HR := hide (show R = false by rw [hR, h3]; simp)
          have h3' : s.toList = [46, 46] := by simpa using h3
          clear hR h0 h0' h2 h3
          go_enter Tryd.func45, Tryd.ntmps45
          go_wp2
          go_ret
          exact ⟨by rw [HR.out] <;> rfl, Below.refl _ _⟩
      · have HR := hide (show R = false by rw [hR, h2]; simp)
        have h2' : s.toList = [46] := by simpa using h2
        clear hR h0 h0' h2
        go_enter Tryd.func45, Tryd.ntmps45
        go_wp2
        go_ret
        exact ⟨by rw [HR.out] <;> rfl, Below.refl _ _⟩
end Go.Proofs.YtelddhhhgjfmeaaDoor
