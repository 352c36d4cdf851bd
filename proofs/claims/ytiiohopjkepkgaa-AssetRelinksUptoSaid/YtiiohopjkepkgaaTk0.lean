/-
  Tokens of styles and scripts: the plain law.
-/
import Derived.Test.YtiiohopjkepkgaaN2
namespace Go.Proofs.Ytiiohopjkepkgaa.tk
open Go.RowKit
set_option linter.unusedVariables false
set_option linter.unusedSimpArgs false
def at_ (s : ByteArray) (i : Nat) : Nat := (bAt s i).toNat
def badB (c : Nat) : Bool := (decide (c < 32) && (!decide (c = 9) && !decide (c = 10))) || decide (c = 127)
def blkB (c : Nat) : Bool := decide (c = 32) || (decide (c = 9) || decide (c = 10))
def wordB (c : Nat) : Bool := (decide (97 ≤ c) && decide (c ≤ 122)) || ((decide (65 ≤ c) && decide (c ≤ 90)) || ((decide (48 ≤ c) && decide (c ≤ 57)) || (decide (c = 95) || (decide (c = 36) || decide (128 ≤ c)))))
/-- The marks of a style. -/
def mkB (c : Nat) : Bool := decide (c ∈ [123, 125, 40, 41, 91, 93, 59, 58, 44, 62])
def markB (sc : Bool) (c : Nat) : Bool := if sc then !(wordB c) else mkB c
/-- The first byte from i on, ahead of e, that cannot be there; -1: none. -/
def chk (s : ByteArray) (i e : Nat) : Int := if i < e then (if badB (at_ s i) then (i : Int) else chk s (i + 1) e) else -1
termination_by e - i
theorem chk_end {s : ByteArray} {i e : Nat} (h : ¬ i < e) : chk s i e = -1 := by rw [chk, if_neg h]
theorem chk_bad {s : ByteArray} {i e : Nat} (h : i < e) (h2 : badB (at_ s i) = true) : chk s i e = i := by rw [chk, if_pos h, if_pos h2]
theorem chk_ok {s : ByteArray} {i e : Nat} (h : i < e) (h2 : badB (at_ s i) = false) : chk s i e = chk s (i + 1) e := by rw [chk, if_pos h, if_neg (by rw [h2]; decide)]
theorem chk_cases (s : ByteArray) (e : Nat) : ∀ (n i : Nat), e - i < n → (chk s i e = -1 ∧ ∀ k, i ≤ k → k < e → badB (at_ s k) = false) ∨ ∃ m : Nat, chk s i e = m ∧ i ≤ m ∧ m < e ∧ badB (at_ s m) = true ∧ ∀ k, i ≤ k → k < m → badB (at_ s k) = false
  | 0, _, h => by omega
  | n + 1, i, h => by
    by_cases h1 : i < e
    · cases h2 : badB (at_ s i)
      · rw [chk_ok h1 h2]
        rcases chk_cases s e n (i + 1) (by omega) with ⟨h3, h4⟩ | ⟨m, h3, h4, h5, h6, h7⟩
        · refine .inl ⟨h3, fun k hk hke => ?_⟩
          by_cases hki : k = i
          · exact hki ▸ h2
          · exact h4 k (by omega) hke
        · refine .inr ⟨m, h3, by omega, h5, h6, fun k hk hke => ?_⟩
          by_cases hki : k = i
          · exact hki ▸ h2
          · exact h7 k (by omega) hke
      · rw [chk_bad h1 h2]
        exact .inr ⟨i, rfl, Nat.le_refl _, h1, h2, fun k hk hke => by omega⟩
    · rw [chk_end h1]
      exact .inl ⟨rfl, fun k hk hke => by omega⟩
theorem chk_or (s : ByteArray) (i e : Nat) : (chk s i e = -1 ∧ ∀ k, i ≤ k → k < e → badB (at_ s k) = false) ∨ ∃ m : Nat, chk s i e = m ∧ i ≤ m ∧ m < e ∧ badB (at_ s m) = true ∧ ∀ k, i ≤ k → k < m → badB (at_ s k) = false := chk_cases s e (e - i + 1) i (by omega)
/-- The first bad byte of all, seen from a place behind good ones. -/
theorem chk_skip {s : ByteArray} {i j e : Nat} (h : i ≤ j) (h2 : ∀ k, i ≤ k → k < j → badB (at_ s k) = false) (hj : j ≤ e) : chk s i e = chk s j e := by
  rcases chk_or s i e with ⟨h3, h4⟩ | ⟨m, h3, h4, h5, h6, h7⟩ <;> rcases chk_or s j e with ⟨g3, g4⟩ | ⟨n, g3, g4, g5, g6, g7⟩
  · rw [h3, g3]
  · have := h4 n (by omega) g5; rw [g6] at this; cases this
  · by_cases hm : m < j
    · have := h2 m h4 hm; rw [h6] at this; cases this
    · have := g4 m (by omega) h5; rw [h6] at this; cases this
  · have hm : j ≤ m := by
      rcases Nat.lt_or_ge m j with hm | hm
      · have := h2 m h4 hm; rw [h6] at this; cases this
      · exact hm
    have h8 : ¬ n < m := fun h => by have := h7 n (by omega) h; rw [g6] at this; cases this
    have h9 : ¬ m < n := fun h => by have := g7 m hm h; rw [h6] at this; cases this
    rw [h3, g3, show m = n by omega]
theorem chk_part {s : ByteArray} {i e e' : Nat} (h : e ≤ e') : chk s i e = if chk s i e' < e then chk s i e' else -1 := by
  rcases chk_or s i e with ⟨h3, h4⟩ | ⟨m, h3, h4, h5, h6, h7⟩ <;> rcases chk_or s i e' with ⟨g3, g4⟩ | ⟨n, g3, g4, g5, g6, g7⟩
  · rw [h3, g3]; simp
  · have : ¬ n < e := fun h' => by have := h4 n g4 h'; rw [g6] at this; cases this
    rw [h3, g3, if_neg (by omega)]
  · have := g4 m h4 (by omega); rw [h6] at this; cases this
  · have h8 : ¬ n < m := fun h => by have := h7 n g4 h; rw [g6] at this; cases this
    have h9 : ¬ m < n := fun h => by have := g7 m h4 h; rw [h6] at this; cases this
    rw [h3, g3, show m = n by omega, if_pos (by omega)]
/-- Two bytes stand at a place. -/
def hasP (s : ByteArray) (i a b : Nat) : Bool := decide (i + 2 ≤ s.size) && (decide (at_ s i = a) && decide (at_ s (i + 1) = b))
/-- Where a comment ends that begins at i; -1: none begins; the size and one more: it has no end. (ix, ib: the places of its end, of a line's end.) -/
def cm (ix ib : ByteArray → Nat → Int) (s : ByteArray) (sc : Bool) (i : Nat) : Int :=
  if hasP s i 47 42 then (if ix s (i + 2) < 0 then s.size + 1 else i + 2 + ix s (i + 2) + 2) else if sc && hasP s i 47 47 then (if ib s i < 0 then s.size else i + ib s i) else -1
/-- Where a string ends. -/
def txt (s : ByteArray) (q : Nat) (i : Nat) : Int :=
  if i < s.size then (if at_ s i = 10 then -1 else if at_ s i = q then (i : Int) + 1 else if at_ s i = 92 then (if i + 1 < s.size ∧ at_ s (i + 1) ≠ 10 then txt s q (i + 2) else txt s q (i + 1)) else txt s q (i + 1)) else -1
termination_by s.size - i
structure R3 where
  i : Int
  at' : Int
  e : Int
section
variable (c : ByteArray → Bool → Nat → Int)
/-- A run of blanks and comments. -/
def bl (s : ByteArray) (sc : Bool) (i : Nat) : R3 :=
  if i < s.size then (if blkB (at_ s i) then bl s sc (i + 1) else if c s sc i < 0 then ⟨i, 0, 0⟩ else if (s.size : Int) < c s sc i then ⟨0, i, 8⟩
    else if 0 ≤ chk s i (c s sc i).toNat then ⟨0, chk s i (c s sc i).toNat, 9⟩ else if i < (c s sc i).toNat then bl s sc (c s sc i).toNat else ⟨0, 0, 0⟩) else ⟨i, 0, 0⟩
termination_by s.size - i
/-- Whether a token begins. -/
def begB (s : ByteArray) (sc : Bool) (i : Nat) : Bool := blkB (at_ s i) || (decide (at_ s i = 34) || (decide (at_ s i = 39) || (markB sc (at_ s i) || (decide (0 ≤ c s sc i) || badB (at_ s i)))))
/-- Where a word ends. -/
def we (s : ByteArray) (sc : Bool) (i : Nat) : Nat := if i < s.size then (if begB c s sc i then i else we s sc (i + 1)) else i
termination_by s.size - i
structure Tk where
  k : Int
  t : ByteArray
  f : Int
  e : Int
structure Tks where
  l : List Tk
  at' : Int
  e : Int
/-- The next token: its kind and where it ends; or an error. -/
inductive Nx where
  | ok (k : Int) (e : Nat)
  | no (at' : Int) (e : Int)
def nx (s : ByteArray) (sc : Bool) (i : Nat) : Nx :=
  if badB (at_ s i) then .no i 9
  else if blkB (at_ s i) || decide (0 ≤ c s sc i) then (if (bl c s sc i).e ≠ 0 then .no (bl c s sc i).at' (bl c s sc i).e else .ok 4 (bl c s sc i).i.toNat)
  else if at_ s i = 34 ∨ at_ s i = 39 then (if txt s (at_ s i) (i + 1) < 0 then .no i 8 else if 0 ≤ chk s i (txt s (at_ s i) (i + 1)).toNat then .no (chk s i (txt s (at_ s i) (i + 1)).toNat) 9 else .ok 2 (txt s (at_ s i) (i + 1)).toNat)
  else if markB sc (at_ s i) then .ok 3 (i + 1) else .ok 1 (we c s sc (i + 1))
def tkOf (s : ByteArray) (k : Int) (i e : Nat) : Tk := ⟨k, if k = 4 then ⟨#[32]⟩ else s.extract i e, i, e⟩
/-- All tokens. -/
def dv (s : ByteArray) (sc : Bool) (i : Nat) (out : List Tk) : Tks :=
  if i < s.size then (match nx c s sc i with | .no a e => ⟨[], a, e⟩ | .ok k e => if i < e then dv s sc e (out ++ [tkOf s k i e]) else ⟨[], 0, 0⟩) else ⟨out, 0, 0⟩
termination_by s.size - i
end
/-! ## Steps -/
theorem txt_end {s : ByteArray} {q i : Nat} (h : ¬ i < s.size) : txt s q i = -1 := by rw [txt, if_neg h]
theorem txt_nl {s : ByteArray} {q i : Nat} (h : i < s.size) (h2 : at_ s i = 10) : txt s q i = -1 := by rw [txt, if_pos h, if_pos h2]
theorem txt_q {s : ByteArray} {q i : Nat} (h : i < s.size) (h2 : ¬ at_ s i = 10) (h3 : at_ s i = q) : txt s q i = (i : Int) + 1 := by rw [txt, if_pos h, if_neg h2, if_pos h3]
theorem txt_bs {s : ByteArray} {q i : Nat} (h : i < s.size) (h3 : ¬ at_ s i = q) (h4 : at_ s i = 92) (h5 : i + 1 < s.size) (h6 : ¬ at_ s (i + 1) = 10) : txt s q i = txt s q (i + 2) := by
  rw [txt, if_pos h, if_neg (by omega), if_neg h3, if_pos h4, if_pos ⟨h5, h6⟩]
theorem txt_b1 {s : ByteArray} {q i : Nat} (h : i < s.size) (h3 : ¬ at_ s i = q) (h4 : at_ s i = 92) (h5 : ¬ (i + 1 < s.size ∧ ¬ at_ s (i + 1) = 10)) : txt s q i = txt s q (i + 1) := by
  rw [txt, if_pos h, if_neg (by omega), if_neg h3, if_pos h4, if_neg h5]
theorem txt_go {s : ByteArray} {q i : Nat} (h : i < s.size) (h2 : ¬ at_ s i = 10) (h3 : ¬ at_ s i = q) (h4 : ¬ at_ s i = 92) : txt s q i = txt s q (i + 1) := by rw [txt, if_pos h, if_neg h2, if_neg h3, if_neg h4]
theorem txt_cases (s : ByteArray) (q : Nat) : ∀ (n i : Nat), s.size - i < n → txt s q i = -1 ∨ ∃ m : Nat, txt s q i = m ∧ i < m ∧ m ≤ s.size
  | 0, _, h => by omega
  | n + 1, i, h => by
    have up : ∀ j, i < j → (txt s q j = -1 ∨ ∃ m : Nat, txt s q j = m ∧ j < m ∧ m ≤ s.size) → txt s q i = txt s q j → (txt s q i = -1 ∨ ∃ m : Nat, txt s q i = m ∧ i < m ∧ m ≤ s.size) := fun j hj h e => by
      rw [e]
      exact h.imp id (fun ⟨m, h1, h2, h3⟩ => ⟨m, h1, by omega, h3⟩)
    by_cases h1 : i < s.size
    · by_cases h2 : at_ s i = 10
      · exact .inl (txt_nl h1 h2)
      · by_cases h3 : at_ s i = q
        · exact .inr ⟨i + 1, by rw [txt_q h1 h2 h3]; rfl, by omega, by omega⟩
        · by_cases h4 : at_ s i = 92
          · by_cases h5 : i + 1 < s.size ∧ ¬ at_ s (i + 1) = 10
            · exact up _ (by omega) (txt_cases s q n (i + 2) (by omega)) (txt_bs h1 h3 h4 h5.1 h5.2)
            · exact up _ (by omega) (txt_cases s q n (i + 1) (by omega)) (txt_b1 h1 h3 h4 h5)
          · exact up _ (by omega) (txt_cases s q n (i + 1) (by omega)) (txt_go h1 h2 h3 h4)
    · exact .inl (txt_end h1)
theorem txt_or (s : ByteArray) (q i : Nat) : txt s q i = -1 ∨ ∃ m : Nat, txt s q i = m ∧ i < m ∧ m ≤ s.size := txt_cases s q (s.size - i + 1) i (by omega)
section
variable {c : ByteArray → Bool → Nat → Int} {s : ByteArray} {sc : Bool}
theorem bl_end {i : Nat} (h : ¬ i < s.size) : bl c s sc i = ⟨i, 0, 0⟩ := by rw [bl, if_neg h]
theorem bl_blk {i : Nat} (h : i < s.size) (h2 : blkB (at_ s i) = true) : bl c s sc i = bl c s sc (i + 1) := by rw [bl, if_pos h, if_pos h2]
theorem bl_no {i : Nat} (h : i < s.size) (h2 : blkB (at_ s i) = false) (h3 : c s sc i < 0) : bl c s sc i = ⟨i, 0, 0⟩ := by rw [bl, if_pos h, if_neg (by rw [h2]; decide), if_pos h3]
theorem bl_open {i : Nat} (h : i < s.size) (h2 : blkB (at_ s i) = false) (h3 : (s.size : Int) < c s sc i) : bl c s sc i = ⟨0, i, 8⟩ := by rw [bl, if_pos h, if_neg (by rw [h2]; decide), if_neg (by omega), if_pos h3]
theorem bl_bad {i : Nat} (h : i < s.size) (h2 : blkB (at_ s i) = false) (h3 : 0 ≤ c s sc i) (h4 : c s sc i ≤ s.size) (h5 : 0 ≤ chk s i (c s sc i).toNat) : bl c s sc i = ⟨0, chk s i (c s sc i).toNat, 9⟩ := by
  rw [bl, if_pos h, if_neg (by rw [h2]; decide), if_neg (by omega), if_neg (by omega), if_pos h5]
theorem bl_go {i : Nat} (h : i < s.size) (h2 : blkB (at_ s i) = false) (h3 : 0 ≤ c s sc i) (h4 : c s sc i ≤ s.size) (h5 : chk s i (c s sc i).toNat < 0) (h6 : i < (c s sc i).toNat) : bl c s sc i = bl c s sc (c s sc i).toNat := by
  rw [bl, if_pos h, if_neg (by rw [h2]; decide), if_neg (by omega), if_neg (by omega), if_neg (by omega), if_pos h6]
/-- What is asked of the places where comments end. -/
def CmOk (c : ByteArray → Bool → Nat → Int) (s : ByteArray) (sc : Bool) : Prop := ∀ i, i < s.size → c s sc i = -1 ∨ ((i : Int) < c s sc i ∧ c s sc i ≤ s.size + 1)
theorem bl_cases (hc : CmOk c s sc) : ∀ (n i : Nat), s.size - i < n → i ≤ s.size → ((bl c s sc i).e = 0 ∧ (bl c s sc i).at' = 0 ∧ ∃ m : Nat, (bl c s sc i).i = m ∧ i ≤ m ∧ m ≤ s.size ∧ ((i < s.size ∧ (blkB (at_ s i) = true ∨ 0 ≤ c s sc i)) → i < m)) ∨ ((bl c s sc i).e ≠ 0 ∧ (bl c s sc i).i = 0)
  | 0, _, h, _ => by omega
  | n + 1, i, h, hi => by
    have up : ∀ j, i < j → j ≤ s.size → bl c s sc i = bl c s sc j → s.size - j < n → ((bl c s sc i).e = 0 ∧ (bl c s sc i).at' = 0 ∧ ∃ m : Nat, (bl c s sc i).i = m ∧ i ≤ m ∧ m ≤ s.size ∧ ((i < s.size ∧ (blkB (at_ s i) = true ∨ 0 ≤ c s sc i)) → i < m)) ∨ ((bl c s sc i).e ≠ 0 ∧ (bl c s sc i).i = 0) := fun j hj hjs e hn => by
      rw [e]
      exact (bl_cases hc n j hn hjs).imp (fun ⟨h1, h0, m, h2, h3, h4, _⟩ => ⟨h1, h0, m, h2, by omega, h4, fun _ => by omega⟩) id
    by_cases h1 : i < s.size
    · cases h2 : blkB (at_ s i)
      · rcases hc i h1 with h3 | ⟨h3, h4⟩
        · rw [bl_no h1 h2 (by omega)]
          exact .inl ⟨rfl, rfl, i, rfl, Nat.le_refl _, hi, fun ⟨_, h⟩ => by
            rcases h with h | h
            · cases h
            · omega⟩
        · by_cases h5 : (s.size : Int) < c s sc i
          · rw [bl_open h1 h2 h5]; exact .inr ⟨show ¬ (8 : Int) = 0 by decide, rfl⟩
          · by_cases h6 : 0 ≤ chk s i (c s sc i).toNat
            · rw [bl_bad h1 h2 (by omega) (by omega) h6]; exact .inr ⟨show ¬ (9 : Int) = 0 by decide, rfl⟩
            · have := up (c s sc i).toNat (by omega) (by omega) (bl_go h1 h2 (by omega) (by omega) (by omega) (by omega)) (by omega)
              rwa [h2] at this
      · have := up (i + 1) (by omega) (by omega) (bl_blk h1 h2) (by omega)
        rwa [h2] at this
    · rw [bl_end h1]
      exact .inl ⟨rfl, rfl, i, rfl, Nat.le_refl _, hi, fun ⟨h, _⟩ => absurd h h1⟩
theorem bl_or (hc : CmOk c s sc) {i : Nat} (hi : i ≤ s.size) : ((bl c s sc i).e = 0 ∧ (bl c s sc i).at' = 0 ∧ ∃ m : Nat, (bl c s sc i).i = m ∧ i ≤ m ∧ m ≤ s.size ∧ ((i < s.size ∧ (blkB (at_ s i) = true ∨ 0 ≤ c s sc i)) → i < m)) ∨ ((bl c s sc i).e ≠ 0 ∧ (bl c s sc i).i = 0) := bl_cases hc (s.size - i + 1) i (by omega) hi
theorem we_end {i : Nat} (h : ¬ i < s.size) : we c s sc i = i := by rw [we, if_neg h]
theorem we_stop {i : Nat} (h : i < s.size) (h2 : begB c s sc i = true) : we c s sc i = i := by rw [we, if_pos h, if_pos h2]
theorem we_go {i : Nat} (h : i < s.size) (h2 : begB c s sc i = false) : we c s sc i = we c s sc (i + 1) := by rw [we, if_pos h, if_neg (by rw [h2]; decide)]
theorem we_cases : ∀ (n i : Nat), s.size - i < n → i ≤ s.size → i ≤ we c s sc i ∧ we c s sc i ≤ s.size
  | 0, _, h, _ => by omega
  | n + 1, i, h, hi => by
    by_cases h1 : i < s.size
    · cases h2 : begB c s sc i
      · rw [we_go h1 h2]
        have := we_cases n (i + 1) (by omega) (by omega)
        omega
      · rw [we_stop h1 h2]; omega
    · rw [we_end h1]; omega
theorem we_or {i : Nat} (hi : i ≤ s.size) : i ≤ we c s sc i ∧ we c s sc i ≤ s.size := we_cases (s.size - i + 1) i (by omega) hi
theorem dv_end {i : Nat} {out : List Tk} (h : ¬ i < s.size) : dv c s sc i out = ⟨out, 0, 0⟩ := by rw [dv, if_neg h]
theorem dv_no {i : Nat} {out : List Tk} {a e : Int} (h : i < s.size) (h2 : nx c s sc i = .no a e) : dv c s sc i out = ⟨[], a, e⟩ := by rw [dv, if_pos h, h2]
theorem dv_ok {i e : Nat} {out : List Tk} {k : Int} (h : i < s.size) (h2 : nx c s sc i = .ok k e) (h3 : i < e) : dv c s sc i out = dv c s sc e (out ++ [tkOf s k i e]) := by
  rw [dv, if_pos h, h2]
  simp only
  rw [if_pos h3]
end
/-! ## The places of ends -/
theorem cm_ok {ix ib : ByteArray → Nat → Int} {s : ByteArray} {sc : Bool} (h1 : ∀ j, ix s j = -1 ∨ (0 ≤ ix s j ∧ ix s j + 2 + j ≤ s.size)) (h2 : ∀ j, j < s.size → at_ s j ≠ 10 → ib s j = -1 ∨ (1 ≤ ib s j ∧ ib s j + j ≤ s.size)) : CmOk (cm ix ib) s sc := by
  intro i hi
  unfold cm
  by_cases h : hasP s i 47 42 = true
  · rw [if_pos h]
    have h3 := h1 (i + 2)
    split <;> omega
  · rw [if_neg h]
    by_cases h4 : (sc && hasP s i 47 47) = true
    · rw [if_pos h4]
      have h5 : at_ s i = 47 := by
        unfold hasP at h4
        simp only [Bool.and_eq_true, decide_eq_true_eq] at h4
        exact h4.2.2.1
      have h6 := h2 i hi (by omega)
      split <;> omega
    · rw [if_neg h4]
      exact .inl rfl
end Go.Proofs.Ytiiohopjkepkgaa.tk
