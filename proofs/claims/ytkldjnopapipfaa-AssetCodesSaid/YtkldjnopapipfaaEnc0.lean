/-
  Rows of bytes: append's type facts, the string made of a row; digits in base 64 of a string's bytes, as plain functions.
-/
import Derived.Test.YtkldjnopapipfaaRows
import Derived.Test.YtkldjnopapipfaaL3
import Derived.Laws.BytesArg
import Derived.Laws.BitsAll
namespace Go.Proofs.Ytkldjnopapipfaa.codes
open Go.RowKit

theorem bytTy : SlTy Try.prog 63 5 (.int .u8 0) 1 1 :=
  ⟨Try.underlying63, info_parts (by kernel_rfl), rfl, by decide, by decide⟩

def cellsOf (n : Nat) (f : Nat → Int) : List Value := ((List.range n).map f).map (Value.int .u8)
theorem cellsOf_succ (n : Nat) (f : Nat → Int) (x : Int) (hx : x = f n) : cellsOf (n + 1) f = cellsOf n f ++ #[Value.int .u8 x].toList := by
  subst hx
  simp [cellsOf, List.range_succ]
theorem cellsOf_zero (f : Nat → Int) : cellsOf 0 f = [] := rfl

def strOf (n : Nat) (f : Nat → Int) : ByteArray := strOfNums ((List.range n).map f)

set_option maxRecDepth 100000 in
theorem conv_own {w : World} {B n c : Nat} {A : Option Addr} {f : Nat → Int} (h : w.ownsRow B 5 1 (.slice A n c) n (cellsOf n f)) :
    (convert 63 9 (.slice A n c)).run Try.prog w = .ok (.string (strOf n f)) w := by
  rcases Nat.eq_zero_or_pos n with h0 | h0
  · subst h0
    have hA : A = none ∨ ∃ a, A = some a := by cases A <;> simp
    rcases h.2 with ⟨h1, _⟩ | ⟨g, cap, cur, h1, _⟩
    · injection h1 with h1 _ _
      subst h1
      rw [run_convert_bytes_nil w 63 5 Try.underlying63 Try.underlying5 _ _ _ Try.underlying9]
      rfl
    · injection h1 with h1 _ _
      subst h1
      rw [run_convert_bytes_arg w 63 5 Try.underlying63 Try.underlying5 g 0 0 c [] rfl (fun i hi => absurd hi (by omega)) _ Try.underlying9]
      rfl
  · obtain ⟨g, cap, hv, _, _⟩ := h.form h0
    injection hv with hA _ _
    subst hA
    rw [run_convert_bytes_arg w 63 5 Try.underlying63 Try.underlying5 g 0 n c ((List.range n).map f) (by simp) (fun i hi => ?_) _ Try.underlying9]
    · rfl
    · have hc := h.cellAt i (by omega)
      rw [Nat.zero_add, hc]
      simp [cellsOf, List.getElem?_map, List.getElem?_range hi, List.getD]

theorem i64_and63 (n : Int) : bits .and .i64 n 63 = n % 64 := by
  have h1 : (BitVec.ofInt 64 63).toNat = 2 ^ 6 - 1 := by decide
  have key : (BitVec.ofInt 64 n &&& BitVec.ofInt 64 63).toNat = (n % ((2 ^ 64 : Nat) : Int)).toNat % 2 ^ 6 := by
    rw [BitVec.toNat_and, BitVec.toNat_ofInt, h1, Nat.and_two_pow_sub_one_eq_mod]
  show IntKind.i64.wrap ((BitVec.ofInt 64 n &&& BitVec.ofInt 64 63).toNat : Nat) = n % 64
  rw [key, IntKind.wrap_i64]
  omega
theorem i64_and1 (n : Int) : bits .and .i64 n 1 = n % 2 := by
  have h1 : (BitVec.ofInt 64 1).toNat = 2 ^ 1 - 1 := by decide
  have key : (BitVec.ofInt 64 n &&& BitVec.ofInt 64 1).toNat = (n % ((2 ^ 64 : Nat) : Int)).toNat % 2 ^ 1 := by
    rw [BitVec.toNat_and, BitVec.toNat_ofInt, h1, Nat.and_two_pow_sub_one_eq_mod]
  show IntKind.i64.wrap ((BitVec.ofInt 64 n &&& BitVec.ofInt 64 1).toNat : Nat) = n % 2
  rw [key, IntKind.wrap_i64]
  omega

/-- A byte of a string; 0 behind its end. -/
def bt (s : ByteArray) (i : Nat) : Int := if h : i < s.size then (s[i].toNat : Int) else 0
theorem bt_lt (s : ByteArray) (i : Nat) : 0 ≤ bt s i ∧ bt s i < 256 := by
  unfold bt
  split
  · have := (s[i]'(by assumption)).toNat_lt
    omega
  · omega
theorem bt_end {s : ByteArray} {i : Nat} (h : s.size ≤ i) : bt s i = 0 := by
  unfold bt
  rw [dif_neg (by omega)]

theorem bt_index {s : ByteArray} {i : Nat} (hi : i < s.size) (w : World) : (Instr.index 9 (.string s) (.int .i64 i)).run Try.prog w = .ok (.int .u8 (bt s i)) w := by
  rw [run_index_string w 9 s .i64 i Try.underlying9, dif_pos ⟨by omega, by omega⟩]
  unfold bt
  rw [dif_pos hi]
  simp

/-- The digits. -/
def digs : ByteArray := ⟨#[65, 66, 67, 68, 69, 70, 71, 72, 73, 74, 75, 76, 77, 78, 79, 80, 81, 82, 83, 84, 85, 86, 87, 88, 89, 90, 97, 98, 99, 100, 101, 102, 103, 104, 105, 106, 107, 108, 109, 110, 111, 112, 113, 114, 115, 116, 117, 118, 119, 120, 121, 122, 48, 49, 50, 51, 52, 53, 54, 55, 56, 57, 45, 95]⟩
theorem digs_index {x : Int} (h0 : 0 ≤ x) (h1 : x < 64) (w : World) : (Instr.index 9 (.string ⟨#[65, 66, 67, 68, 69, 70, 71, 72, 73, 74, 75, 76, 77, 78, 79, 80, 81, 82, 83, 84, 85, 86, 87, 88, 89, 90, 97, 98, 99, 100, 101, 102, 103, 104, 105, 106, 107, 108, 109, 110, 111, 112, 113, 114, 115, 116, 117, 118, 119, 120, 121, 122, 48, 49, 50, 51, 52, 53, 54, 55, 56, 57, 45, 95]⟩) (.int .i64 x)).run Try.prog w = .ok (.int .u8 (bt digs x.toNat)) w := by
  have := bt_index (s := digs) (i := x.toNat) (show x.toNat < 64 by omega) w
  rwa [Int.toNat_of_nonneg h0] at this

def acc3 (s : ByteArray) (j : Nat) : Int := bt s (3 * j) * 65536 + bt s (3 * j + 1) * 256 + bt s (3 * j + 2)
/-- The digit number t of a string in base 64. -/
def dig (s : ByteArray) (t : Nat) : Int := acc3 s (t / 4) / 2 ^ (18 - 6 * (t % 4)) % 64
def ech (s : ByteArray) (t : Nat) : Int := bt digs (dig s t).toNat
/-- How many digits. -/
def len64 (n : Nat) : Nat := 4 * (n / 3) + (if n % 3 = 0 then 0 else n % 3 + 1)
def bit8 (s : ByteArray) (p : Nat) : Int := bt s (p / 8) / 2 ^ (7 - p % 8) % 2
end Go.Proofs.Ytkldjnopapipfaa.codes
