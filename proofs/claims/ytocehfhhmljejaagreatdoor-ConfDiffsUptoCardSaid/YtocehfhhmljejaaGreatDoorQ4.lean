/-
  strings.Trim leaves nothing of a string just when all its bytes are of the set. Trimming; the reference's keys and bytes.
-/
import Derived.Shelf.Strings.SlTrimAscii
import Derived.Test.YtocehfhhmljejaaGreatDoorShelf
import Derived.Test.YtocehfhhmljejaaGreatDoorQ3
namespace Go.Proofs.YtocehfhhmljejaaGreatDoor
open Go.RowKit
theorem dropWhile_head {α : Type} {p : α → Bool} : ∀ {l : List α} {a : α} {r : List α}, l.dropWhile p = a :: r → p a = false
  | [], _, _, h => by simp at h
  | x :: l, a, r, h => by
    rw [List.dropWhile_cons] at h
    split at h
    · exact dropWhile_head h
    · rename_i hx
      injection h with h _
      subst h
      simpa using hx
theorem dropWhile_nil {α : Type} {p : α → Bool} : ∀ {l : List α}, l.dropWhile p = [] ↔ l.all p = true
  | [] => by simp
  | x :: l => by
    rw [List.dropWhile_cons, List.all_cons]
    split
    · rename_i hx
      rw [hx, dropWhile_nil]
      simp
    · rename_i hx
      simp [hx]
theorem trim_nil (l cs : List UInt8) : (Lib.trimS l cs).isEmpty = l.all (cs.contains ·) := by
  rw [Bool.eq_iff_iff, List.isEmpty_iff]
  unfold Lib.trimS Lib.trimLeftS Lib.trimRightS
  rw [dropWhile_nil, List.all_reverse]
  constructor
  · intro h
    cases hd : l.reverse.dropWhile (cs.contains ·) with
    | nil =>
      rw [dropWhile_nil, List.all_reverse] at hd
      exact hd
    | cons a r =>
      have h1 := dropWhile_head hd
      rw [hd, List.all_cons, Bool.and_eq_true] at h
      rw [h1] at h
      cases h.1
  · intro h
    have : l.reverse.dropWhile (cs.contains ·) = [] := by rw [dropWhile_nil, List.all_reverse]; exact h
    rw [this]
    rfl

end Go.Proofs.YtocehfhhmljejaaGreatDoor
namespace Go.Proofs.YtocehfhhmljejaaGreatDoor
open Go.RowKit
set_option linter.unusedVariables false
set_option linter.unusedSimpArgs false

theorem trim_len (l cs : List UInt8) : (Lib.trimS l cs).length ≤ l.length := by
  unfold Lib.trimS Lib.trimLeftS Lib.trimRightS
  have h1 := (List.dropWhile_sublist (cs.contains ·) (l := l.reverse)).length_le
  have h2 := (List.dropWhile_sublist (cs.contains ·) (l := (l.reverse.dropWhile (cs.contains ·)).reverse)).length_le
  simp at *
  omega
def trimV (s cs : ByteArray) : ByteArray := ⟨(Lib.trimS s.data.toList cs.data.toList).toArray⟩
theorem trimV_nil (s cs : ByteArray) : trimV s cs = ⟨#[]⟩ ↔ ∀ k, k < s.size → cs.data.toList.contains (bAt s k) = true := by
  have h1 : trimV s cs = ⟨#[]⟩ ↔ (Lib.trimS s.data.toList cs.data.toList).isEmpty = true := by
    unfold trimV
    constructor
    · intro h
      injection h with h
      have := congrArg Array.toList h
      simp only [List.isEmpty_iff]
      exact this
    · intro h
      rw [List.isEmpty_iff] at h
      rw [h]
  rw [h1, trim_nil, List.all_eq_true]
  constructor
  · intro h k hk
    refine h _ ?_
    have : k < s.data.toList.length := by simpa using hk
    have e : bAt s k = s.data.toList[k] := by
      unfold bAt
      simp [List.getD, List.getElem?_eq_getElem this, -Array.getElem?_toList]
    rw [e]
    exact List.getElem_mem this
  · intro h b hb
    obtain ⟨k, hk, rfl⟩ := List.getElem_of_mem hb
    have hk' : k < s.size := by simpa using hk
    have e : bAt s k = s.data.toList[k] := by
      unfold bAt
      simp [List.getD, List.getElem?_eq_getElem hk, -Array.getElem?_toList]
    rw [← e]
    exact h k hk'
section
variable (E : Env)
set_option maxRecDepth 100000
theorem trim_sp (s cs : ByteArray) (hcs : cs.size < 4294967281) (ha : cs.data.toList.all (fun b => decide (b.toNat < 128)) = true) : Sp (cx Tryz.prog mixed tyT_ok E) 90 [dS s, dS cs] (dS (trimV s cs)) := by
  refine Sp.of_v2 (vs := [.string s, .string cs]) ⟨_, _, Tryz.func90, by kernel_rfl, rfl⟩ ?_ ?_
  · intro h
    have h1 := h (.string s) (by simp)
    have h2 := trim_len s.data.toList cs.data.toList
    have : (trimV s cs).size ≤ s.size := h2
    exact decide_eq_true (Nat.le_trans this (of_decide_eq_true h1))
  · intro w _ h
    have h1 := h (.string s) (by simp)
    have h1 : s.size ≤ 9223372036854775807 := of_decide_eq_true h1
    have hcon := Any.strings_Trim_laid Tryz.lays160 (by kernel_rfl) s cs w h1 hcs (ascii_of_all ha)
    exact Calls.mono hcon fun e w' ⟨he, hb⟩ => ⟨he, hb⟩
theorem refBadByte_sp (s : ByteArray) : Sp (cx Tryz.prog mixed tyT_ok E) 73 [dS s] (dB (badStr s)) := by
  refine Sp.body Tryz.func73 (by kernel_rfl) rfl (by kernel_rfl) (by kernel_rfl) (by kernel_rfl) ?_
  refine ⟨Nat, fun k => [(3, i64 k)], fun k => [], [], fun k => [], fun k => k ≤ s.size ∧ allN k (fun k => !badCh (bAt s k)) = true, fun k => s.size - k, ⟨0, ⟨by omega, rfl⟩, ⟨[], ⟨by kernel_rfl, by kernel_rfl, by kernel_rfl, by kernel_rfl, by kernel_rfl, by kernel_rfl, by kernel_rfl⟩, (by repeat' first | exact trivial | exact rfl | kernel_rfl | exact Dle.of_eq rfl | exact MLe.of_eq rfl | exact Dle.i (by omega) | exact Dle.i (by simp only [Int.toNat_natCast] at *; omega) | exact Dle.nil | exact Dle.rc Dle.nil | exact Option.some_ne_none _ | exact Or.inl rfl | exact Or.inr trivial | omega | (simp only [Int.toNat_natCast] at *; omega) | (intro _ _ _ _; exact Dle.of_eq rfl) | refine And.intro ?_ ?_)⟩⟩, fun k hk => ?_⟩
  obtain ⟨hk, hall⟩ := hk
  have hno : ∀ b, badCh (bAt s k) = b → k < s.size → b = true → badStr s = true := fun b hb hlt e => by
    unfold badStr; rw [allN_no hlt (by rw [hb, e]; rfl)]; rfl
  have hend : s.size ≤ k → badStr s = false := fun h => by
    obtain rfl : k = s.size := by omega
    unfold badStr; rw [hall]; rfl
  repeat' first
    | (refine facW_intro ?_; intro _)
    | refine Or.inl ?_
    | ((conv => whnf); first | (refine condW_dec ?_ ?_ <;> intro _) | refine condW_not ?_ | (refine condW_bool ?_ ?_ <;> intro _) | (refine nbC_t (fun _ => ?_) ?_) | (refine nbC_f ?_ (fun _ => ?_)))
    | refine And.intro (by first | omega | (simp only [Int.toNat_natCast] at *; omega) | (simp only [Nat.reduceAdd, Int.cast_ofNat_Int, true_and, and_true]; omega)  | kernel_rfl) ?_
    | refine RegW.run ?_
    | fail
  all_goals first
    | (refine ⟨k + 1, ⟨by omega, allN_succ hall (badCh_no.2 (by simp only [Int.toNat_natCast] at *; omega))⟩, ⟨[], ⟨by kernel_rfl, by kernel_rfl, by kernel_rfl, by kernel_rfl, by kernel_rfl, by kernel_rfl, by kernel_rfl⟩, (by repeat' first | exact trivial | exact rfl | kernel_rfl | exact Dle.of_eq rfl | exact MLe.of_eq rfl | exact Dle.i (by omega) | exact Dle.i (by simp only [Int.toNat_natCast] at *; omega) | exact Dle.nil | exact Dle.rc Dle.nil | exact Option.some_ne_none _ | exact Or.inl rfl | exact Or.inr trivial | omega | (simp only [Int.toNat_natCast] at *; omega) | (intro _ _ _ _; exact Dle.of_eq rfl) | refine And.intro ?_ ?_)⟩, by first | omega | (dsimp only; omega)⟩)
    | exact Dle.bo (by rw [hend (by omega)])
    | exact Dle.bo (by rw [hno _ rfl (by omega) (badCh_iff.2 (by simp only [Int.toNat_natCast] at *; omega))])

theorem kch_set : ∀ n : Fin 256, kchB (UInt8.ofNat n.val) = ([97, 98, 99, 100, 101, 102, 103, 104, 105, 106, 107, 108, 109, 110, 111, 112, 113, 114, 115, 116, 117, 118, 119, 120, 121, 122, 48, 49, 50, 51, 52, 53, 54, 55, 56, 57, 45, 95] : List UInt8).contains (UInt8.ofNat n.val) := by decide +kernel
theorem kch_eq (b : UInt8) : kchB b = ([97, 98, 99, 100, 101, 102, 103, 104, 105, 106, 107, 108, 109, 110, 111, 112, 113, 114, 115, 116, 117, 118, 119, 120, 121, 122, 48, 49, 50, 51, 52, 53, 54, 55, 56, 57, 45, 95] : List UInt8).contains b := by
  have h := kch_set ⟨b.toNat, b.toNat_lt⟩
  simp only [UInt8.ofNat_toNat] at h
  exact h
theorem keyOkB_trim {s : ByteArray} (h0 : 0 < s.size) (h1 : ¬ (40 : Int) < s.size) (h2 : smallB (bAt s 0) = true) : keyOkB s = decide (trimV s ⟨#[97, 98, 99, 100, 101, 102, 103, 104, 105, 106, 107, 108, 109, 110, 111, 112, 113, 114, 115, 116, 117, 118, 119, 120, 121, 122, 48, 49, 50, 51, 52, 53, 54, 55, 56, 57, 45, 95]⟩ = ⟨#[]⟩) := by
  rw [Bool.eq_iff_iff, decide_eq_true_eq, trimV_nil]
  unfold keyOkB
  simp only [kch_eq, Bool.and_eq_true, allN_iff, decide_eq_true_eq]
  exact ⟨fun h => h.2, fun h => ⟨⟨⟨h0, by omega⟩, h2⟩, h⟩⟩
theorem refIsKey_sp (s : ByteArray) : Sp (cx Tryz.prog mixed tyT_ok E) 74 [dS s] (dB (keyOkB s)) := by
  refine Sp.body Tryz.func74 (by kernel_rfl) rfl (by kernel_rfl) (by kernel_rfl) (by kernel_rfl) ?_
  refine Or.inl ?_
  refine condW_dec ?_ ?_ <;> intro h0
  · exact Dle.bo (by rw [keyOkB_no1 h0])
  have hp := str_pos h0
  repeat' first
    | (refine facW_intro ?_; intro _)
    | refine Or.inl ?_
    | ((conv => whnf); first | (refine condW_dec ?_ ?_ <;> intro _) | refine condW_not ?_ | (refine condW_bool ?_ ?_ <;> intro _) | (refine nbC_t (fun _ => ?_) ?_) | (refine nbC_f ?_ (fun _ => ?_)))
    | refine And.intro (by first | omega | (simp only [Int.toNat_natCast] at *; omega) | (simp only [Nat.reduceAdd, Int.cast_ofNat_Int, true_and, and_true]; omega)  | kernel_rfl) ?_
    | refine RegW.run ?_
    | refine ⟨_, trim_sp E s _ (by decide) (by decide), ?_⟩
    | fail
  all_goals simp only [Int.toNat_zero] at *
  all_goals first
    | exact Dle.bo (by rw [keyOkB_no2 (by omega)])
    | exact Dle.bo (by rw [keyOkB_no3 (by unfold smallB; grind)])
    | skip
  exact Dle.bo (keyOkB_trim hp (by omega) (by unfold smallB; grind)).symm
end
end Go.Proofs.YtocehfhhmljejaaGreatDoor
