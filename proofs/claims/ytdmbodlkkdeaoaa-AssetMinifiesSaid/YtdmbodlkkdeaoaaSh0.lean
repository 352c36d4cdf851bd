/-
  Tokens made smaller: the plain words.
-/
import Derived.Test.YtdmbodlkkdeaoaaBl2
namespace Go.Proofs.Ytdmbodlkkdeaoaa
open Go.RowKit
set_option linter.unusedVariables false
set_option linter.unusedSimpArgs false
namespace sh
open bl
abbrev zt : Tok := (0, ⟨#[]⟩)
/-- One of some marks. -/
def amT (t : Tok) (m : ByteArray) : Bool := decide (t.1 = 3) && (decide ((t.2.size : Int) = 1) && Lib.contains m.data.toList t.2.data.toList)
/-- Token i is kept where neighbouring Blanks become one. -/
def keepT (l : List Tok) (i : Nat) : Bool := !(decide ((l.getD i zt).1 = 4) && (decide (0 < i) && decide ((l.getD (i - 1) zt).1 = 4)))
def onceP (l : List Tok) : Nat → List Tok
  | 0 => []
  | k + 1 => if keepT l k = true then onceP l k ++ [l.getD k zt] else onceP l k
def once (l : List Tok) : List Tok := onceP l l.length
theorem onceP_yes {l : List Tok} {k : Nat} (h : keepT l k = true) : onceP l (k + 1) = onceP l k ++ [l.getD k zt] := by rw [onceP, if_pos h]
theorem onceP_no {l : List Tok} {k : Nat} (h : keepT l k = false) : onceP l (k + 1) = onceP l k := by rw [onceP, if_neg (by rw [h]; decide)]
theorem onceP_len (l : List Tok) : ∀ k, (onceP l k).length ≤ k
  | 0 => Nat.le_refl _
  | k + 1 => by
    have ih := onceP_len l k
    cases h : keepT l k
    · rw [onceP_no h]; omega
    · rw [onceP_yes h, List.length_append]; simp only [List.length_singleton]; omega
/-- The last token kept is a Blank just where the last one is. -/
theorem once_last (l : List Tok) : ∀ k, (0 < (onceP l k).length ∧ ((onceP l k).getD ((onceP l k).length - 1) zt).1 = 4) ↔ (0 < k ∧ (l.getD (k - 1) zt).1 = 4)
  | 0 => by simp [onceP]
  | k + 1 => by
    have ih := once_last l k
    cases h : keepT l k
    · rw [onceP_no h, ih]
      unfold keepT at h
      simp only [Bool.not_eq_false', Bool.and_eq_true, decide_eq_true_eq] at h
      obtain ⟨h1, h2, h3⟩ := h
      simp only [Nat.add_sub_cancel]
      exact ⟨fun _ => ⟨by omega, h1⟩, fun _ => ⟨h2, h3⟩⟩
    · rw [onceP_yes h]
      have e : (onceP l k ++ [l.getD k zt]).length - 1 = (onceP l k).length := by simp
      rw [e]
      simp [List.getD]
/-- Whether behind the tokens from i on, Blanks and ; left out, a block ends. -/
def endsT (s : List Tok) (i : Nat) : Bool := if i < s.length then (if (s.getD i zt).1 = 4 then endsT s (i + 1) else if amT (s.getD i zt) (⟨#[59]⟩ : ByteArray) = true then endsT s (i + 1) else amT (s.getD i zt) ⟨#[125]⟩) else true
  termination_by s.length - i
theorem endsT_end {s : List Tok} {i : Nat} (h : ¬ i < s.length) : endsT s i = true := by rw [endsT, if_neg h]
theorem endsT_blank {s : List Tok} {i : Nat} (h : i < s.length) (h2 : (s.getD i zt).1 = 4) : endsT s i = endsT s (i + 1) := by rw [endsT, if_pos h, if_pos h2]
theorem endsT_semi {s : List Tok} {i : Nat} (h : i < s.length) (h2 : ¬ (s.getD i zt).1 = 4) (h3 : amT (s.getD i zt) (⟨#[59]⟩ : ByteArray) = true) : endsT s i = endsT s (i + 1) := by rw [endsT, if_pos h, if_neg h2, if_pos h3]
theorem endsT_other {s : List Tok} {i : Nat} (h : i < s.length) (h2 : ¬ (s.getD i zt).1 = 4) (h3 : amT (s.getD i zt) (⟨#[59]⟩ : ByteArray) = false) : endsT s i = amT (s.getD i zt) ⟨#[125]⟩ := by rw [endsT, if_pos h, if_neg h2, if_neg (by rw [h3]; decide)]
/-- A ; ahead of the end of its block. -/
def idleT (s : List Tok) (i : Nat) : Bool := if (s.getD i zt).1 = 4 then false else if amT (s.getD i zt) (⟨#[59]⟩ : ByteArray) = true then endsT s (i + 1) else false
abbrev mA : ByteArray := ⟨#[123, 125, 59, 58, 44, 62]⟩
abbrev mB : ByteArray := ⟨#[123, 125, 59, 44, 62]⟩
/-- Whether a Blank must stay. -/
def needT (k : Int) (s : List Tok) (i : Nat) : Bool :=
  if i = 0 ∨ (i : Int) = (s.length : Int) - 1 then false
  else if k = 1 then (!amT (s.getD (i - 1) zt) mA) && !amT (s.getD (i + 1) zt) mB
  else decide ((s.getD (i - 1) zt).1 = (s.getD (i + 1) zt).1) && (decide ((s.getD (i - 1) zt).1 = 1) || decide ((s.getD (i - 1) zt).1 = 3))
/-- Whether token i stays. -/
def stayT (k : Int) (s : List Tok) (i : Nat) : Bool :=
  if (s.getD i zt).1 = 4 then needT k s i else if k = 1 then !idleT s i else true
def smallP (k : Int) (s : List Tok) : Nat → List Tok
  | 0 => []
  | i + 1 => if stayT k s i = true then smallP k s i ++ [s.getD i zt] else smallP k s i
theorem smallP_yes {k : Int} {s : List Tok} {i : Nat} (h : stayT k s i = true) : smallP k s (i + 1) = smallP k s i ++ [s.getD i zt] := by rw [smallP, if_pos h]
theorem smallP_no {k : Int} {s : List Tok} {i : Nat} (h : stayT k s i = false) : smallP k s (i + 1) = smallP k s i := by rw [smallP, if_neg (by rw [h]; decide)]
theorem smallP_len (k : Int) (s : List Tok) : ∀ i, (smallP k s i).length ≤ i
  | 0 => Nat.le_refl _
  | i + 1 => by
    have ih := smallP_len k s i
    cases h : stayT k s i
    · rw [smallP_no h]; omega
    · rw [smallP_yes h, List.length_append]; simp only [List.length_singleton]; omega
def smallT (k : Int) (l : List Tok) : List Tok := smallP k (once l) (once l).length
/-- A token that is not right. -/
def badT (t : Tok) : Bool := decide (t.1 < 1) || (decide (4 < t.1) || (decide (t.2 = ⟨#[]⟩) || (decide (t.1 = 4) && decide (t.2 ≠ ⟨#[32]⟩))))
def sizesT (l : List Tok) (k : Nat) : Nat := ((l.take k).map (·.2.size)).sum
theorem sizesT_zero (l : List Tok) : sizesT l 0 = 0 := rfl
theorem sizesT_succ {l : List Tok} {k : Nat} (h : k < l.length) : sizesT l (k + 1) = sizesT l k + (l.getD k zt).2.size := by
  unfold sizesT
  rw [List.take_add_one, List.map_append, List.sum_append]
  simp [List.getD, h]
theorem sizesT_le (l : List Tok) (k : Nat) : sizesT l k ≤ (l.map (·.2.size)).sum := by
  unfold sizesT
  conv => rhs; rw [← List.take_append_drop k l]
  rw [List.map_append, List.sum_append]
  omega
theorem catL_len : ∀ l : List Tok, (catL (txts l)).length = (l.map (·.2.size)).sum
  | [] => rfl
  | t :: l => by
    have ih := catL_len l
    unfold catL txts at *
    simp only [List.map_cons, List.flatMap_cons, List.length_append, List.sum_cons, ih]
    congr 1
theorem sizesT_all (l : List Tok) {k : Nat} (h : l.length ≤ k) : sizesT l k = (catS (txts l)).size := by
  have h2 : (catS (txts l)).size = (catL (txts l)).length := rfl
  rw [h2, catL_len]
  unfold sizesT
  rw [List.take_of_length_le h]
/-- The first token that is not right, from a place on; the error. -/
def formE (l : List Tok) (k : Nat) : Bool := (l.drop k).any badT
theorem formE_end {l : List Tok} {k : Nat} (h : ¬ k < l.length) : formE l k = false := by unfold formE; rw [List.drop_of_length_le (by omega)]; rfl
theorem formE_at {l : List Tok} {k : Nat} (h : k < l.length) : formE l k = (badT (l.getD k zt) || formE l (k + 1)) := by
  unfold formE
  have e : l.drop k = l.getD k zt :: l.drop (k + 1) := by
    rw [List.drop_eq_getElem_cons h]
    simp [List.getD, h]
  rw [e, List.any_cons]
def toksF (l : List Tok) : Int := if 20000 < l.length then 4 else if formE l 0 = true then 1 else if 200000 < (catS (txts l)).size then 4 else 0
end sh
end Go.Proofs.Ytdmbodlkkdeaoaa
