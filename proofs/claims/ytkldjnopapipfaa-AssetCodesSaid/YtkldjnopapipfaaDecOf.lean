/-
  The reference's Decode64Of: the same bytes, bit by bit.
-/
import Derived.Test.YtkldjnopapipfaaDec
namespace Go.Proofs.Ytkldjnopapipfaa.codes
open Go.RowKit
attribute [local go_sem] i64_and63 i64_and1 u8_and1

theorem vbit_lt (s : ByteArray) (p : Nat) : 0 ≤ vbit s p ∧ vbit s p < 2 := by unfold vbit; omega
theorem vbit_at (s : ByteArray) (i j : Nat) (hj : j < 6) : vbit s (6 * i + j) = vl s i / 2 ^ (5 - j) % 2 := by
  unfold vbit
  rw [show (6 * i + j) / 6 = i by omega, show (6 * i + j) % 6 = j by omega]

def accV (s : ByteArray) (i : Nat) : Nat → Int
  | 0 => 0
  | k + 1 => 2 * accV s i k + vbit s (i + k)
theorem accV_lt (s : ByteArray) (i : Nat) : ∀ k, 0 ≤ accV s i k ∧ accV s i k < 2 ^ k
  | 0 => by simp [accV]
  | k + 1 => by
    have := accV_lt s i k
    have := vbit_lt s (i + k)
    simp only [accV, Int.pow_succ]
    omega
theorem accV_lt128 (s : ByteArray) (i k : Nat) (hk : k ≤ 7) : 0 ≤ accV s i k ∧ accV s i k < 128 := by
  have h := accV_lt s i k
  have : (2 : Int) ^ k ≤ 2 ^ 7 := by
    have := Nat.pow_le_pow_right (n := 2) (by omega) hk
    exact_mod_cast this
  omega
/-- Eight bits are a byte, where every digit is right. -/
theorem accV_byt (s : ByteArray) (t : Nat) (h : ∀ i, 0 ≤ vl s i) : accV s (8 * t) 8 = byt s t := by
  have a := vl_lt s (4 * (t / 3)); have b := vl_lt s (4 * (t / 3) + 1); have c := vl_lt s (4 * (t / 3) + 2); have d := vl_lt s (4 * (t / 3) + 3)
  have a' := h (4 * (t / 3)); have b' := h (4 * (t / 3) + 1); have c' := h (4 * (t / 3) + 2); have d' := h (4 * (t / 3) + 3)
  unfold byt acc4
  rcases (by omega : t % 3 = 0 ∨ t % 3 = 1 ∨ t % 3 = 2) with h | h | h
  · have e : t = 3 * (t / 3) + 0 := by omega
    have b0 : ∀ k, vbit s (8 * t + k) = vl s ((8 * t + k) / 6) / 2 ^ (5 - (8 * t + k) % 6) % 2 := fun k => rfl
    simp only [accV, b0]
    rw [show (8 * t + 0) / 6 = 4 * (t / 3) + 0 by omega, show (8 * t + 0) % 6 = 0 by omega]
    rw [show (8 * t + 1) / 6 = 4 * (t / 3) + 0 by omega, show (8 * t + 1) % 6 = 1 by omega]
    rw [show (8 * t + 2) / 6 = 4 * (t / 3) + 0 by omega, show (8 * t + 2) % 6 = 2 by omega]
    rw [show (8 * t + 3) / 6 = 4 * (t / 3) + 0 by omega, show (8 * t + 3) % 6 = 3 by omega]
    rw [show (8 * t + 4) / 6 = 4 * (t / 3) + 0 by omega, show (8 * t + 4) % 6 = 4 by omega]
    rw [show (8 * t + 5) / 6 = 4 * (t / 3) + 0 by omega, show (8 * t + 5) % 6 = 5 by omega]
    rw [show (8 * t + 6) / 6 = 4 * (t / 3) + 1 by omega, show (8 * t + 6) % 6 = 0 by omega]
    rw [show (8 * t + 7) / 6 = 4 * (t / 3) + 1 by omega, show (8 * t + 7) % 6 = 1 by omega]
    rw [h]
    try simp only [Nat.add_zero]
    revert a b c d a' b' c' d'
    generalize vl s (4 * (t / 3)) = x
    generalize vl s (4 * (t / 3) + 1) = y
    generalize vl s (4 * (t / 3) + 2) = z
    generalize vl s (4 * (t / 3) + 3) = u
    intro a' b' c' d' a b c d
    simp
    omega
  · have e : t = 3 * (t / 3) + 1 := by omega
    have b0 : ∀ k, vbit s (8 * t + k) = vl s ((8 * t + k) / 6) / 2 ^ (5 - (8 * t + k) % 6) % 2 := fun k => rfl
    simp only [accV, b0]
    rw [show (8 * t + 0) / 6 = 4 * (t / 3) + 1 by omega, show (8 * t + 0) % 6 = 2 by omega]
    rw [show (8 * t + 1) / 6 = 4 * (t / 3) + 1 by omega, show (8 * t + 1) % 6 = 3 by omega]
    rw [show (8 * t + 2) / 6 = 4 * (t / 3) + 1 by omega, show (8 * t + 2) % 6 = 4 by omega]
    rw [show (8 * t + 3) / 6 = 4 * (t / 3) + 1 by omega, show (8 * t + 3) % 6 = 5 by omega]
    rw [show (8 * t + 4) / 6 = 4 * (t / 3) + 2 by omega, show (8 * t + 4) % 6 = 0 by omega]
    rw [show (8 * t + 5) / 6 = 4 * (t / 3) + 2 by omega, show (8 * t + 5) % 6 = 1 by omega]
    rw [show (8 * t + 6) / 6 = 4 * (t / 3) + 2 by omega, show (8 * t + 6) % 6 = 2 by omega]
    rw [show (8 * t + 7) / 6 = 4 * (t / 3) + 2 by omega, show (8 * t + 7) % 6 = 3 by omega]
    rw [h]
    try simp only [Nat.add_zero]
    revert a b c d a' b' c' d'
    generalize vl s (4 * (t / 3)) = x
    generalize vl s (4 * (t / 3) + 1) = y
    generalize vl s (4 * (t / 3) + 2) = z
    generalize vl s (4 * (t / 3) + 3) = u
    intro a' b' c' d' a b c d
    simp
    omega
  · have e : t = 3 * (t / 3) + 2 := by omega
    have b0 : ∀ k, vbit s (8 * t + k) = vl s ((8 * t + k) / 6) / 2 ^ (5 - (8 * t + k) % 6) % 2 := fun k => rfl
    simp only [accV, b0]
    rw [show (8 * t + 0) / 6 = 4 * (t / 3) + 2 by omega, show (8 * t + 0) % 6 = 4 by omega]
    rw [show (8 * t + 1) / 6 = 4 * (t / 3) + 2 by omega, show (8 * t + 1) % 6 = 5 by omega]
    rw [show (8 * t + 2) / 6 = 4 * (t / 3) + 3 by omega, show (8 * t + 2) % 6 = 0 by omega]
    rw [show (8 * t + 3) / 6 = 4 * (t / 3) + 3 by omega, show (8 * t + 3) % 6 = 1 by omega]
    rw [show (8 * t + 4) / 6 = 4 * (t / 3) + 3 by omega, show (8 * t + 4) % 6 = 2 by omega]
    rw [show (8 * t + 5) / 6 = 4 * (t / 3) + 3 by omega, show (8 * t + 5) % 6 = 3 by omega]
    rw [show (8 * t + 6) / 6 = 4 * (t / 3) + 3 by omega, show (8 * t + 6) % 6 = 4 by omega]
    rw [show (8 * t + 7) / 6 = 4 * (t / 3) + 3 by omega, show (8 * t + 7) % 6 = 5 by omega]
    rw [h]
    try simp only [Nat.add_zero]
    revert a b c d a' b' c' d'
    generalize vl s (4 * (t / 3)) = x
    generalize vl s (4 * (t / 3) + 1) = y
    generalize vl s (4 * (t / 3) + 2) = z
    generalize vl s (4 * (t / 3) + 3) = u
    intro a' b' c' d' a b c d
    simp
    omega
theorem good_all {s : ByteArray} (h : good s s.size) : ∀ i, 0 ≤ vl s i := fun i => by
  by_cases hi : i < s.size
  · exact h i hi hi
  · rw [vl_end (by omega)]
    omega

theorem tail_two (s : ByteArray) (q : Nat) (hq : s.size = 4 * q + 2) (h : ∀ i, 0 ≤ vl s i) : (∃ j, j < 4 ∧ vbit s (8 * (3 * q + 1) + j) = 1) ↔ ¬ noTail s := by
  have b := vl_lt s (4 * q + 1)
  have b' := h (4 * q + 1)
  have a := vl_lt s (4 * q)
  have a' := h (4 * q)
  have e1 : byt s (3 * q + 1) = vl s (4 * q + 1) % 16 * 16 := by
    rw [byt1, acc4, vl_end (i := 4 * q + 2) (by omega), vl_end (i := 4 * q + 3) (by omega)]
    omega
  have e2 : byt s (3 * q + 2) = 0 := by
    rw [byt2, acc4, vl_end (i := 4 * q + 2) (by omega), vl_end (i := 4 * q + 3) (by omega)]
    omega
  have v : ∀ j, j < 4 → vbit s (8 * (3 * q + 1) + j) = vl s (4 * q + 1) / 2 ^ (3 - j) % 2 := fun j hj => by
    unfold vbit
    rw [show (8 * (3 * q + 1) + j) / 6 = 4 * q + 1 by omega, show (8 * (3 * q + 1) + j) % 6 = 2 + j by omega, show 5 - (2 + j) = 3 - j by omega]
  have v0 := v 0 (by omega); have v1 := v 1 (by omega); have v2 := v 2 (by omega); have v3 := v 3 (by omega)
  simp at v0 v1 v2 v3
  constructor
  · rintro ⟨j, hj, hv⟩ hn
    have h1 := hn (3 * q + 1) (by unfold outLen; split <;> omega) (by omega)
    rw [e1] at h1
    rcases (by omega : j = 0 ∨ j = 1 ∨ j = 2 ∨ j = 3) with rfl | rfl | rfl | rfl
    · simp at hv; omega
    · omega
    · omega
    · omega
  · intro hn
    by_cases h1 : vl s (4 * q + 1) % 16 = 0
    · exfalso
      refine hn fun t h3 h4 => ?_
      unfold outLen at h3
      rcases (by split at h3 <;> omega : t = 3 * q + 1 ∨ t = 3 * q + 2) with rfl | rfl
      · rw [e1, h1]; rfl
      · exact e2
    · rcases (by omega : vl s (4 * q + 1) / 8 % 2 = 1 ∨ vl s (4 * q + 1) / 4 % 2 = 1 ∨ vl s (4 * q + 1) / 2 % 2 = 1 ∨ vl s (4 * q + 1) % 2 = 1) with h | h | h | h
      · exact ⟨0, by omega, by simp; omega⟩
      · exact ⟨1, by omega, by omega⟩
      · exact ⟨2, by omega, by omega⟩
      · exact ⟨3, by omega, by omega⟩

theorem tail_three (s : ByteArray) (q : Nat) (hq : s.size = 4 * q + 3) (h : ∀ i, 0 ≤ vl s i) : (∃ j, j < 2 ∧ vbit s (8 * (3 * q + 2) + j) = 1) ↔ ¬ noTail s := by
  have b := vl_lt s (4 * q + 2)
  have b' := h (4 * q + 2)
  have a' := h (4 * q)
  have c' := h (4 * q + 1)
  have e2 : byt s (3 * q + 2) = vl s (4 * q + 2) % 4 * 64 := by
    rw [byt2, acc4, vl_end (i := 4 * q + 3) (by omega)]
    omega
  have v : ∀ j, j < 2 → vbit s (8 * (3 * q + 2) + j) = vl s (4 * q + 2) / 2 ^ (1 - j) % 2 := fun j hj => by
    unfold vbit
    rw [show (8 * (3 * q + 2) + j) / 6 = 4 * q + 2 by omega, show (8 * (3 * q + 2) + j) % 6 = 4 + j by omega, show 5 - (4 + j) = 1 - j by omega]
  have v0 := v 0 (by omega); have v1 := v 1 (by omega)
  simp at v0 v1
  constructor
  · rintro ⟨j, hj, hv⟩ hn
    have h1 := hn (3 * q + 2) (by unfold outLen; split <;> omega) (by omega)
    rw [e2] at h1
    rcases (by omega : j = 0 ∨ j = 1) with rfl | rfl
    · simp at hv; omega
    · omega
  · intro hn
    by_cases h1 : vl s (4 * q + 2) % 4 = 0
    · exfalso
      refine hn fun t h3 h4 => ?_
      unfold outLen at h3
      obtain rfl : t = 3 * q + 2 := by split at h3 <;> omega
      rw [e2, h1]; rfl
    · rcases (by omega : vl s (4 * q + 2) / 2 % 2 = 1 ∨ vl s (4 * q + 2) % 2 = 1) with h | h
      · exact ⟨0, by omega, by simp; omega⟩
      · exact ⟨1, by omega, by omega⟩

/-- What is left of the bits says whether the tail is right. -/
theorem tail_iff (s : ByteArray) (n t : Nat) (hn : n + 8 * t = 6 * s.size) (h6 : n < 6) (h : ∀ i, 0 ≤ vl s i) : (∃ j, j < n ∧ vbit s (8 * t + j) = 1) ↔ ¬ noTail s := by
  have hc : s.size % 4 = 0 ∨ s.size % 4 = 1 ∨ s.size % 4 = 2 ∨ s.size % 4 = 3 := by omega
  rcases (by rcases hc with h | h | h | h <;> omega : (s.size % 4 = 0 ∧ t = 3 * (s.size / 4) ∧ n = 0) ∨ (s.size % 4 = 2 ∧ t = 3 * (s.size / 4) + 1 ∧ n = 4) ∨ (s.size % 4 = 3 ∧ t = 3 * (s.size / 4) + 2 ∧ n = 2)) with ⟨hq, rfl, rfl⟩ | ⟨hq, rfl, rfl⟩ | ⟨hq, rfl, rfl⟩
  · constructor
    · rintro ⟨j, hj, _⟩; omega
    · intro hn
      exfalso
      refine hn fun t h3 h4 => ?_
      unfold outLen at h3
      split at h3 <;> omega
  · exact tail_two s (s.size / 4) (by omega) h
  · exact tail_three s (s.size / 4) (by omega) h

def VIn (s : ByteArray) (w : World) (v4 v5 : Value) (wr : World) : Prop :=
  ∃ (i m c : Nat) (A : Option Addr), v5 = .int .i64 i ∧ i ≤ s.size ∧ m = 6 * i ∧ v4 = .slice A m c ∧ wr.ownsRow w.heap.size 5 1 (.slice A m c) m (cellsOf m (vbit s)) ∧ Below w.heap.size w wr ∧ good s i
def VBit (s : ByteArray) (i : Nat) (w : World) (v4 v7 : Value) (wr : World) : Prop :=
  ∃ (j m c : Nat) (A : Option Addr), v7 = .int .i64 (5 - (j : Int)) ∧ j ≤ 6 ∧ m = 6 * i + j ∧ v4 = .slice A m c ∧ wr.ownsRow w.heap.size 5 1 (.slice A m c) m (cellsOf m (vbit s)) ∧ Below w.heap.size w wr
def Left (s : ByteArray) (W : World) (A : Option Addr) (n t : Nat) : Prop := n = 0 ∨ ∃ b o, A = some ⟨b, o, none⟩ ∧ ∀ j, j < n → W.cell? ⟨b, o + j, none⟩ = some (.int .u8 (vbit s (8 * t + j)))
def VOut (s : ByteArray) (W : World) (v4 v8 : Value) (wr : World) : Prop :=
  ∃ (t n c c7 : Nat) (A A7 : Option Addr), v4 = .slice A n c ∧ n + 8 * t = 6 * s.size ∧ n ≤ c ∧ Left s W A n t ∧ v8 = .slice A7 t c7 ∧ wr.ownsRow W.heap.size 5 1 (.slice A7 t c7) t (cellsOf t (byt s)) ∧ Below W.heap.size W wr
def VRead (s : ByteArray) (i : Nat) (W : World) (v9 v45 : Value) (wr : World) : Prop :=
  ∃ (k : Nat) (n : Int), k ≤ 8 ∧ v45 = .int .i64 k ∧ v9 = .int .i64 n ∧ n = accV s i k ∧ wr = W

set_option maxHeartbeats 8000000 in
set_option maxRecDepth 100000 in
theorem decodeOf_any (s : ByteArray) (w : World) (hs : s.size ≤ 200000) :
    Calls Try.prog 14 #[.string s] w (DecPost s w) := by
  go_enter Try.func14, Try.ntmps14
  go_wp2_with fail
  go_loopw [4, 5] (VIn s w) (fun _ v5 _ => 400000 - (intOf v5).toNat)
  case atStart => exact ⟨0, 0, 0, none, rfl, by omega, rfl, rfl, World.ownsRow_nil _ _ _ _, Below.refl _ _, fun i hi _ => absurd hi (by omega)⟩
  case round =>
    obtain ⟨i, m, c, A, rfl, hi, hm, rfl, hown, hb, hgood⟩ := hrel
    have HM := hide hm
    have HG := hide hgood
    clear hgood
    have hmb : m ≤ 1200000 := by omega
    by_cases hlt : i < s.size
    · clear hm
      have hlt' : (i : Int) < s.size := by omega
      have hib : i ≤ 200000 := by omega
      have hx := bt_index (s := s) (i := i) hlt wr
      have hbt := bt_lt s i
      have hvl := vl_lt s i
      have HC := hide (fun w => vl_any (s := s) (i := i) hlt w)
      obtain ⟨b, hbb⟩ : ∃ b, b = bt s i := ⟨_, rfl⟩
      rw [← hbb] at hx hbt HC
      obtain ⟨d, hdd⟩ : ∃ d, d = vl s i := ⟨_, rfl⟩
      rw [← hdd] at hvl HC
      obtain ⟨hbt0, hbt1⟩ := hbt
      obtain ⟨hvl0, hvl1⟩ := hvl
      have HD := hide hdd
      clear hbb hdd
      by_cases hd : d < 0
      · go_wp2_with (go_at_call 34; refine (HC.out _).mono ?_; rintro e w' ⟨rfl, rfl⟩)
        go_ret2
        exact ⟨.inr ⟨not_right_byte hlt (by rw [← HD.out]; exact hd), rfl⟩, hb⟩
      · have hd0 : 0 ≤ d := by omega
        go_wp2_with (go_at_call 34; refine (HC.out _).mono ?_; rintro e w' ⟨rfl, rfl⟩)
        clear hd
        go_loopw [4, 7] (VBit s i w) (fun _ v7 _ => ((intOf v7) + 1).toNat)
        case atStart => exact ⟨0, m, c, A, rfl, by omega, HM.out, rfl, hown, hb⟩
        clear hown hb
        case round =>
          obtain ⟨j, m, c, A, rfl, hj, hm, rfl, hown, hb⟩ := hrel
          have HM2 := hide hm
          have hmb : m ≤ 1200010 := by omega
          clear hm
          rcases (by omega : j = 0 ∨ j = 1 ∨ j = 2 ∨ j = 3 ∨ j = 4 ∨ j = 5 ∨ j = 6) with rfl | rfl | rfl | rfl | rfl | rfl | rfl
          · go_wp2_with (at_builtin; refine app1 bytTy wr w rfl _ _ rfl w.heap.size rfl hown hb hb.size _ rfl rfl rfl (by omega) ?_; intro g' c' w1 hown' hb' _ _)
            go_roundw
            case rel => first | exact ⟨1, m + 1, c', _, by simp, by omega, by have := HM2.out; omega, rfl, by rw [cellsOf_succ m (vbit s) (d / 32 % 2) (by rw [HM2.out, vbit_at s i 0 (by omega), HD.out]; rfl)]; exact hown', hb'⟩ | exact ⟨_, _, ⟨1, m + 1, c', _, by simp, by omega, by have := HM2.out; omega, rfl, by rw [cellsOf_succ m (vbit s) (d / 32 % 2) (by rw [HM2.out, vbit_at s i 0 (by omega), HD.out]; rfl)]; exact hown', hb'⟩, rfl, rfl⟩
            case measure => simp [intOf]
          · go_wp2_with (at_builtin; refine app1 bytTy wr w rfl _ _ rfl w.heap.size rfl hown hb hb.size _ rfl rfl rfl (by omega) ?_; intro g' c' w1 hown' hb' _ _)
            go_roundw
            case rel => first | exact ⟨2, m + 1, c', _, by simp, by omega, by have := HM2.out; omega, rfl, by rw [cellsOf_succ m (vbit s) (d / 16 % 2) (by rw [HM2.out, vbit_at s i 1 (by omega), HD.out]; rfl)]; exact hown', hb'⟩ | exact ⟨_, _, ⟨2, m + 1, c', _, by simp, by omega, by have := HM2.out; omega, rfl, by rw [cellsOf_succ m (vbit s) (d / 16 % 2) (by rw [HM2.out, vbit_at s i 1 (by omega), HD.out]; rfl)]; exact hown', hb'⟩, rfl, rfl⟩
            case measure => simp [intOf]
          · go_wp2_with (at_builtin; refine app1 bytTy wr w rfl _ _ rfl w.heap.size rfl hown hb hb.size _ rfl rfl rfl (by omega) ?_; intro g' c' w1 hown' hb' _ _)
            go_roundw
            case rel => first | exact ⟨3, m + 1, c', _, by simp, by omega, by have := HM2.out; omega, rfl, by rw [cellsOf_succ m (vbit s) (d / 8 % 2) (by rw [HM2.out, vbit_at s i 2 (by omega), HD.out]; rfl)]; exact hown', hb'⟩ | exact ⟨_, _, ⟨3, m + 1, c', _, by simp, by omega, by have := HM2.out; omega, rfl, by rw [cellsOf_succ m (vbit s) (d / 8 % 2) (by rw [HM2.out, vbit_at s i 2 (by omega), HD.out]; rfl)]; exact hown', hb'⟩, rfl, rfl⟩
            case measure => simp [intOf]
          · go_wp2_with (at_builtin; refine app1 bytTy wr w rfl _ _ rfl w.heap.size rfl hown hb hb.size _ rfl rfl rfl (by omega) ?_; intro g' c' w1 hown' hb' _ _)
            go_roundw
            case rel => first | exact ⟨4, m + 1, c', _, by simp, by omega, by have := HM2.out; omega, rfl, by rw [cellsOf_succ m (vbit s) (d / 4 % 2) (by rw [HM2.out, vbit_at s i 3 (by omega), HD.out]; rfl)]; exact hown', hb'⟩ | exact ⟨_, _, ⟨4, m + 1, c', _, by simp, by omega, by have := HM2.out; omega, rfl, by rw [cellsOf_succ m (vbit s) (d / 4 % 2) (by rw [HM2.out, vbit_at s i 3 (by omega), HD.out]; rfl)]; exact hown', hb'⟩, rfl, rfl⟩
            case measure => simp [intOf]
          · go_wp2_with (at_builtin; refine app1 bytTy wr w rfl _ _ rfl w.heap.size rfl hown hb hb.size _ rfl rfl rfl (by omega) ?_; intro g' c' w1 hown' hb' _ _)
            go_roundw
            case rel => first | exact ⟨5, m + 1, c', _, by simp, by omega, by have := HM2.out; omega, rfl, by rw [cellsOf_succ m (vbit s) (d / 2 % 2) (by rw [HM2.out, vbit_at s i 4 (by omega), HD.out]; rfl)]; exact hown', hb'⟩ | exact ⟨_, _, ⟨5, m + 1, c', _, by simp, by omega, by have := HM2.out; omega, rfl, by rw [cellsOf_succ m (vbit s) (d / 2 % 2) (by rw [HM2.out, vbit_at s i 4 (by omega), HD.out]; rfl)]; exact hown', hb'⟩, rfl, rfl⟩
            case measure => simp [intOf]
          · go_wp2_with (at_builtin; refine app1 bytTy wr w rfl _ _ rfl w.heap.size rfl hown hb hb.size _ rfl rfl rfl (by omega) ?_; intro g' c' w1 hown' hb' _ _)
            go_roundw
            case rel => first | exact ⟨6, m + 1, c', _, by simp, by omega, by have := HM2.out; omega, rfl, by rw [cellsOf_succ m (vbit s) (d % 2) (by rw [HM2.out, vbit_at s i 5 (by omega), HD.out]; simp)]; exact hown', hb'⟩ | exact ⟨_, _, ⟨6, m + 1, c', _, by simp, by omega, by have := HM2.out; omega, rfl, by rw [cellsOf_succ m (vbit s) (d % 2) (by rw [HM2.out, vbit_at s i 5 (by omega), HD.out]; simp)]; exact hown', hb'⟩, rfl, rfl⟩
            case measure => simp [intOf]
          · go_wp2_with fail
            go_roundw
            case rel => exact ⟨i + 1, m, c, A, by go_num, by omega, by have := HM2.out; omega, rfl, hown, hb, fun j hj hjs => (by
              rcases (by omega : j < i ∨ j = i) with h | rfl
              · exact HG.out j h hjs
              · rw [← HD.out]; exact hd0)⟩
            case measure => simp [intOf]; omega
    · have hmi : m = 6 * s.size := by omega
      have HA := hide (good_all (s := s) (fun j hj h => HG.out j (by omega) h))
      have HMI := hide hmi
      have hlt' : ¬ (i : Int) < s.size := by omega
      have HO := hide (And.intro hown hb)
      clear HM hm hmi hown hb
      go_wp2_with fail
      obtain ⟨W3, hW3⟩ : ∃ W, W = wr := ⟨_, rfl⟩
      subst hW3
      go_loopw [4, 8] (VOut s W3) (fun v4 _ _ => slLen v4)
      case atStart =>
        have hL : m ≤ c ∧ Left s W3 A m 0 := by
          rcases Nat.eq_zero_or_pos m with h0 | h0
          · exact ⟨by omega, .inl h0⟩
          · obtain ⟨g, rfl, hmc, hcell⟩ := own_rd HO.out.1 h0
            exact ⟨hmc, .inr ⟨g, 0, rfl, fun j hj => by rw [Nat.zero_add, hcell j hj]; try simp⟩⟩
        exact ⟨0, m, c, 0, A, none, rfl, by have := HMI.out; omega, hL.1, hL.2, rfl, World.ownsRow_nil _ _ _ _, Below.refl _ _⟩
      clear hlt hlt' hmb hi
      case round =>
        obtain ⟨t, n, c, c7, A, A7, rfl, hn, hnc, hL, rfl, hown, hb⟩ := hrel
        have hnb : n ≤ 1200000 := by omega
        have htb : t ≤ 150000 := by omega
        have HN := hide hn
        clear hn
        by_cases h8 : 8 ≤ n
        · have h8' : (8 : Int) ≤ n := by omega
          have h8c : (8 : Int) ≤ c := by omega
          rcases hL with h0 | ⟨b, o, rfl, hcell⟩
          · omega
          have HC := hide (fun j hj => keepb hb (hcell j hj))
          have HCW := hide hcell
          clear hcell
          go_wp2_with fail
          go_loopw [9, 45] (VRead s (8 * t) wr) (fun _ v45 _ => 8 - (intOf v45).toNat)
          case atStart => exact ⟨0, 0, by omega, rfl, rfl, rfl, rfl⟩
          case round =>
            obtain ⟨k, x, hk, rfl, rfl, hx, rfl⟩ := hrel
            by_cases hk8 : k < 8
            · have hn2 := accV_lt128 s (8 * t) k (by omega)
              rw [← hx] at hn2
              obtain ⟨hn0, hn1⟩ := hn2
              have HX := hide hx
              clear hx
              have hbt := vbit_lt s (8 * t + k)
              have a0 := HC.out k (by omega)
              obtain ⟨y, hy⟩ : ∃ y, y = vbit s (8 * t + k) := ⟨_, rfl⟩
              rw [← hy] at a0 hbt
              obtain ⟨hbt0, hbt1⟩ := hbt
              have HY := hide hy
              clear hy
              have hki : (k : Int) < 8 := by omega
              go_wp2_with fail
              go_roundw
              case rel => exact ⟨k + 1, 2 * x + y, by omega, by go_num, rfl, by rw [HX.out, HY.out]; rfl, rfl⟩
              case measure => simp [intOf]; omega
            · have hn2 := accV_lt s (8 * t) 8
              rw [show k = 8 by omega] at hx
              rw [← hx] at hn2
              obtain ⟨hn0, hn1⟩ := hn2
              have hn256 : x < 256 := hn1
              rw [accV_byt s t HA.out] at hx
              have HX := hide hx
              clear hx hn1
              go_wp2_with (at_builtin; refine app1 bytTy wr W3 rfl _ _ rfl W3.heap.size rfl hown hb hb.size _ rfl rfl rfl (by omega) ?_; intro g' c' w1 hown' hb' _ _)
              have hleft : Left s W3 (if c = 8 then some ⟨b, o, none⟩ else some ⟨b, o + 8, none⟩) (n - 8) (t + 1) := by
                by_cases hc8 : c = 8
                · exact .inl (by omega)
                · exact .inr ⟨b, o + 8, by rw [if_neg hc8], fun j hj => by rw [show o + 8 + j = o + (8 + j) by omega, HCW.out (8 + j) (by omega), show 8 * (t + 1) + j = 8 * t + (8 + j) by omega]⟩
              go_roundw
              case rel => exact ⟨t + 1, n - 8, c - 8, c', if c = 8 then some ⟨b, o, none⟩ else some ⟨b, o + 8, none⟩, _, rfl, by have := HN.out; omega, by omega, hleft, rfl, by rw [cellsOf_succ t (byt s) x (by rw [HX.out])]; exact hown', hb'⟩
              case measure => simp [slLen]; omega
        · have hB : Below w.heap.size w wr := HO.out.2.trans (hb.mono HO.out.2.size)
          have HB := hide hB
          clear hB
          have h8' : ¬ (8 : Int) ≤ n := by omega
          by_cases h6 : 6 ≤ n
          · have h6' : (6 : Int) ≤ n := by omega
            go_wp2_with fail
            go_ret2
            exact ⟨.inr ⟨not_right_one (by have := HN.out; omega), rfl⟩, HB.out⟩
          · have h6' : ¬ (6 : Int) ≤ n := by omega
            have HCt : Hid (∀ W', Below W3.heap.size W3 W' → Calls Try.prog 35 #[.slice A n c, .int .u8 1] W' fun e w' => e = .returned (.bool (decide (∃ j, j < n ∧ vbit s (8 * t + j) = 1))) ∧ w' = W') := by
              intro W' hb'
              refine (containsBytes_any A n c (fun j => vbit s (8 * t + j)) 1 W' (by omega) ?_).mono ?_
              · rcases hL with h0 | ⟨b, o, hA, hcell⟩
                · exact .inl h0
                · exact .inr ⟨b, o, hA, fun j hj => keepb hb' (hcell j hj)⟩
              · rintro e w' ⟨⟨b, rfl, hbb⟩, rfl⟩
                refine ⟨?_, rfl⟩
                congr 2
                cases b
                · symm; rw [decide_eq_false_iff_not]; exact fun h => by have := hbb.2 h; simp at this
                · symm; rw [decide_eq_true_eq]; exact hbb.1 rfl
            have htl := tail_iff s n t HN.out (by omega) HA.out
            have HT := hide htl
            clear htl hL
            by_cases hex : ∃ j, j < n ∧ vbit s (8 * t + j) = 1
            · rw [decide_eq_true hex] at HCt
              have HE := hide hex
              clear hex
              go_wp2_with (go_at_call 35; refine (HCt.out _ hb).mono ?_; rintro e w' ⟨rfl, rfl⟩)
              go_ret2
              exact ⟨.inr ⟨fun hr => HT.out.1 HE.out hr.2.2, rfl⟩, HB.out⟩
            · rw [decide_eq_false hex] at HCt
              have HE := hide hex
              clear hex
              have hcv := conv_own hown
              go_wp2_with (go_at_call 35; refine (HCt.out _ hb).mono ?_; rintro e w' ⟨rfl, rfl⟩)
              go_ret2
              have ht : t = outLen s.size := by have := HN.out; rw [outLen_eq]; omega
              exact ⟨.inl ⟨⟨fun i _ _ => HA.out i, by have := HN.out; omega, Classical.byContradiction fun h => HE.out (HT.out.2 h)⟩, by rw [← ht]; rfl⟩, HB.out⟩
end Go.Proofs.Ytkldjnopapipfaa.codes
