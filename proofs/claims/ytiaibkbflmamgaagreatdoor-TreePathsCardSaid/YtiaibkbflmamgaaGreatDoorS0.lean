/-
  Sorted keys and searches; numbers of routes: plain law.
-/
import Derived.Test.YtiaibkbflmamgaaGreatDoorN2
import Derived.Lib.AtoiAll
namespace Go.Proofs.YtiaibkbflmamgaaGreatDoor
open Go.RowKit
set_option linter.unusedVariables false

theorem toL_ext {a b : ByteArray} (h : a.toList = b.toList) : a = b := by
  cases a with | mk a => cases b with | mk b =>
    simp only [ByteArray.toList_eq] at h
    exact congrArg _ (Array.toList_inj.1 h)
theorem less_iff : ∀ a b : List UInt8, Op.bytesLess a b = true ↔ a < b
  | _, [] => by simp [Op.bytesLess]
  | [], _ :: _ => by simp [Op.bytesLess]
  | a :: x, b :: y => by
    rw [Op.bytesLess, List.cons_lt_cons_iff, ← less_iff x y]
    simp
theorem strLt_iff (a b : ByteArray) : strLt a b = true ↔ a.toList < b.toList := by unfold strLt; exact less_iff _ _
theorem strLt_trans {a b c : ByteArray} (h : strLt a b = true) (g : strLt b c = true) : strLt a c = true := by
  rw [strLt_iff] at *
  exact List.lt_trans h g
theorem strLt_irrefl (a : ByteArray) : strLt a a = false := by
  cases e : strLt a a
  · rfl
  · rw [strLt_iff] at e
    exact absurd e (List.lt_irrefl _)
theorem strLt_total {a b : ByteArray} (h : strLt a b = false) (g : a ≠ b) : strLt b a = true := by
  rw [strLt_iff]
  have h : ¬ a.toList < b.toList := fun e => by rw [(strLt_iff a b).2 e] at h; cases h
  rcases List.le_iff_lt_or_eq.1 (List.not_lt.1 h) with h | e
  · exact h
  · exact absurd (toL_ext e).symm g
/-- Keys in order. -/
def Srt (l : List ByteArray) : Prop := ∀ i j, i < j → j < l.length → strLt (l.getD i ⟨#[]⟩) (l.getD j ⟨#[]⟩) = true
theorem srt_of {l : List ByteArray} (h : ∀ k, 0 < k → k < l.length → strLt (l.getD (k - 1) ⟨#[]⟩) (l.getD k ⟨#[]⟩) = true) : Srt l := by
  intro i j hij hj
  induction j with
  | zero => omega
  | succ j ih =>
    have h1 := h (j + 1) (by omega) hj
    rcases Nat.lt_or_ge i j with h2 | h2
    · exact strLt_trans (ih h2 (by omega)) h1
    · obtain rfl : i = j := by omega
      exact h1
/-- The search of a key between two places. -/
def bsr (l : List ByteArray) (x : ByteArray) (i j : Nat) : Nat :=
  if i < j then (if strLt (l.getD ((i + j) / 2) ⟨#[]⟩) x = true then bsr l x ((i + j) / 2 + 1) j else bsr l x i ((i + j) / 2)) else i
  termination_by j - i
theorem bsr_end {l : List ByteArray} {x : ByteArray} {i j : Nat} (h : ¬ i < j) : bsr l x i j = i := by rw [bsr, if_neg h]
theorem bsr_lt {l : List ByteArray} {x : ByteArray} {i j : Nat} (h : i < j) (g : strLt (l.getD ((i + j) / 2) ⟨#[]⟩) x = true) : bsr l x i j = bsr l x ((i + j) / 2 + 1) j := by rw [bsr, if_pos h, if_pos g]
theorem bsr_ge {l : List ByteArray} {x : ByteArray} {i j : Nat} (h : i < j) (g : strLt (l.getD ((i + j) / 2) ⟨#[]⟩) x = false) : bsr l x i j = bsr l x i ((i + j) / 2) := by rw [bsr, if_pos h, if_neg (by rw [g]; decide)]
theorem bsr_le (l : List ByteArray) (x : ByteArray) : ∀ (n i j : Nat), j - i < n → i ≤ j → i ≤ bsr l x i j ∧ bsr l x i j ≤ j
  | 0, i, j, h, _ => by omega
  | n + 1, i, j, h, hij => by
    rcases Nat.lt_or_ge i j with h1 | h1
    · cases e : strLt (l.getD ((i + j) / 2) ⟨#[]⟩) x
      · rw [bsr_ge h1 e]
        have := bsr_le l x n i ((i + j) / 2) (by omega) (by omega)
        omega
      · rw [bsr_lt h1 e]
        have := bsr_le l x n ((i + j) / 2 + 1) j (by omega) (by omega)
        omega
    · rw [bsr_end (by omega)]
      omega
theorem bsr_spec {l : List ByteArray} {x : ByteArray} (hs : Srt l) : ∀ (n i j : Nat), j - i < n → i ≤ j → j ≤ l.length → (∀ k, k < i → strLt (l.getD k ⟨#[]⟩) x = true) → (∀ k, j ≤ k → k < l.length → strLt (l.getD k ⟨#[]⟩) x = false) →
    (∀ k, k < bsr l x i j → strLt (l.getD k ⟨#[]⟩) x = true) ∧ (∀ k, bsr l x i j ≤ k → k < l.length → strLt (l.getD k ⟨#[]⟩) x = false)
  | 0, i, j, h, _, _, _, _ => by omega
  | n + 1, i, j, h, hij, hj, ha, hb => by
    rcases Nat.lt_or_ge i j with h1 | h1
    · cases e : strLt (l.getD ((i + j) / 2) ⟨#[]⟩) x
      · rw [bsr_ge h1 e]
        refine bsr_spec hs n i _ (by omega) (by omega) (by omega) ha (fun k hk hk2 => ?_)
        rcases Nat.lt_or_ge ((i + j) / 2) k with h2 | h2
        · cases e2 : strLt (l.getD k ⟨#[]⟩) x
          · rfl
          · rw [strLt_trans (hs _ _ h2 hk2) e2] at e
            cases e
        · obtain rfl : k = (i + j) / 2 := by omega
          exact e
      · rw [bsr_lt h1 e]
        refine bsr_spec hs n _ j (by omega) (by omega) hj (fun k hk => ?_) hb
        rcases Nat.lt_or_ge k ((i + j) / 2) with h2 | h2
        · exact strLt_trans (hs _ _ h2 (by omega)) e
        · obtain rfl : k = (i + j) / 2 := by omega
          exact e
    · rw [bsr_end (by omega)]
      exact ⟨ha, fun k hk hk2 => hb k (by omega) hk2⟩
/-- In keys in order the search finds the key's place. -/
theorem bsr_at {l : List ByteArray} {x : ByteArray} (hs : Srt l) {m : Nat} (hm : m < l.length) (hx : l.getD m ⟨#[]⟩ = x) : bsr l x 0 l.length = m := by
  obtain ⟨h1, h2⟩ := bsr_spec (x := x) hs (l.length + 1) 0 l.length (by omega) (by omega) (Nat.le_refl _) (fun k hk => by omega) (fun k hk hk2 => by omega)
  rcases Nat.lt_trichotomy (bsr l x 0 l.length) m with h | h | h
  · have h3 := h2 (bsr l x 0 l.length) (Nat.le_refl _) (by omega)
    have h4 := hs _ _ h hm
    rw [hx, h3] at h4
    cases h4
  · exact h
  · have h3 := h1 m h
    rw [hx, strLt_irrefl] at h3
    cases h3

def digB (c : UInt8) : Bool := decide (48 ≤ c.toNat) && decide (c.toNat ≤ 57)
theorem parse_ok : ∀ (l : List UInt8) (acc : Nat), l.all digB = true → l.length ≤ 10 → acc < 10 ^ (10 - l.length) → ∃ u, Lib.parseUint10 acc l = .ok u ∧ u < 10 ^ 10
  | [], acc, _, _, h => ⟨acc, rfl, by simpa using h⟩
  | c :: r, acc, h, hl, ha => by
    simp only [List.all_cons, Bool.and_eq_true, digB, decide_eq_true_eq] at h
    simp only [List.length_cons] at hl ha
    have h1 : 10 ^ (10 - r.length) = 10 * 10 ^ (10 - (r.length + 1)) := by
      rw [show 10 - r.length = (10 - (r.length + 1)) + 1 by omega, Nat.pow_succ, Nat.mul_comm]
    have h2 : 10 ^ (10 - (r.length + 1)) ≤ 10 ^ 9 := Nat.pow_le_pow_right (by omega) (by omega)
    obtain ⟨u, h3, h4⟩ := parse_ok r (acc * 10 + (c.toNat - 48)) (h.2) (by omega) (by omega)
    refine ⟨u, ?_, h4⟩
    rw [Lib.parseUint10, if_pos h.1, if_neg (by omega), if_neg (by omega)]
    exact h3
/-- The number that a string spells. -/
def numN (s : ByteArray) : Nat := match Lib.parseUint10 0 s.data.toList with | .ok v => v | _ => 0
theorem atoi_num {s : ByteArray} (h : s.data.toList.all digB = true) (h0 : 0 < s.size) (h1 : s.size ≤ 4) : Lib.atoiAll s.data.toList = .ok (numN s : Int) ∧ numN s < 10 ^ 10 := by
  have hl : s.data.toList.length = s.size := by simp
  obtain ⟨u, h2, h3⟩ := parse_ok s.data.toList 0 h (by omega) (Nat.pow_pos (by omega))
  have hn : numN s = u := by unfold numN; rw [h2]
  rw [hn]
  refine ⟨?_, h3⟩
  revert h h2
  match e : s.data.toList with
  | [] => rw [e] at hl; simp at hl; omega
  | c :: r =>
    intro h h2
    simp only [List.all_cons, Bool.and_eq_true, digB, decide_eq_true_eq] at h
    unfold Lib.atoiAll
    simp only
    rw [if_neg (by omega)]
    unfold Lib.parseMag
    rw [if_neg (by simp), h2]
    simp only
    rw [if_neg (by omega), if_neg (by omega), if_neg (by omega)]
end Go.Proofs.YtiaibkbflmamgaaGreatDoor
