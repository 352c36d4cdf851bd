/-
  The reference's Encode64Of: the same digits, bit by bit.
-/
import Derived.Test.YtkldjnopapipfaaEnc
namespace Go.Proofs.Ytkldjnopapipfaa.codes
open Go.RowKit

theorem u8_and1 (n : Int) : bits .and .u8 n 1 = n % 2 := by
  have h1 : (BitVec.ofInt 8 1).toNat = 2 ^ 1 - 1 := by decide
  have key : (BitVec.ofInt 8 n &&& BitVec.ofInt 8 1).toNat = (n % ((2 ^ 8 : Nat) : Int)).toNat % 2 ^ 1 := by
    rw [BitVec.toNat_and, BitVec.toNat_ofInt, h1, Nat.and_two_pow_sub_one_eq_mod]
  show IntKind.u8.wrap ((BitVec.ofInt 8 n &&& BitVec.ofInt 8 1).toNat : Nat) = n % 2
  rw [key]
  have : ∀ m : Int, 0 ≤ m → m < 256 → IntKind.u8.wrap m = m := fun m h0 h1 => by simp [IntKind.wrap, IntKind.bits, IntKind.signed]; omega
  rw [this _ (by omega) (by omega)]
  omega

attribute [local go_sem] i64_and63 i64_and1 u8_and1

theorem keepb {w w' : World} {a : Addr} {v : Value} (hb : Below w.heap.size w w') (h : w.cell? a = some v) : w'.cell? a = some v :=
  (hb.cell (World.block_lt_of_cell? w a h)).trans h

theorem own_rd {w : World} {B n c : Nat} {A : Option Addr} {f : Nat → Int} (h : w.ownsRow B 5 1 (.slice A n c) n (cellsOf n f)) (h0 : 0 < n) :
    ∃ g, A = some ⟨g, 0, none⟩ ∧ n ≤ c ∧ ∀ j, j < n → w.cell? ⟨g, j, none⟩ = some (.int .u8 (f j)) := by
  rcases h.2 with ⟨_, h1⟩ | ⟨g, cap, cur, hv, _, _, hc, _⟩
  · omega
  · injection hv with h1 h2 h3
    subst h1 h3
    refine ⟨g, rfl, hc, fun j hj => ?_⟩
    rw [h.cellAt j (by omega)]
    simp [cellsOf, List.getElem?_map, List.getElem?_range hj]

theorem bit8_lt (s : ByteArray) (p : Nat) : 0 ≤ bit8 s p ∧ bit8 s p < 2 := by unfold bit8; omega
theorem bit8_end {s : ByteArray} {p : Nat} (h : 8 * s.size ≤ p) : bit8 s p = 0 := by
  unfold bit8
  rw [bt_end (by omega)]
  simp
theorem bit8_at (s : ByteArray) (i j : Nat) (hj : j < 8) : bit8 s (8 * i + j) = bt s i / 2 ^ (7 - j) % 2 := by
  unfold bit8
  rw [show (8 * i + j) / 8 = i by omega, show (8 * i + j) % 8 = j by omega]

def accB (s : ByteArray) (i : Nat) : Nat → Int
  | 0 => 0
  | k + 1 => 2 * accB s i k + bit8 s (i + k)
theorem accB_lt (s : ByteArray) (i : Nat) : ∀ k, 0 ≤ accB s i k ∧ accB s i k < 2 ^ k
  | 0 => by simp [accB]
  | k + 1 => by
    have := accB_lt s i k
    have := bit8_lt s (i + k)
    simp only [accB, Int.pow_succ]
    omega
theorem accB_lt32 (s : ByteArray) (i k : Nat) (hk : k ≤ 5) : 0 ≤ accB s i k ∧ accB s i k < 32 := by
  have h := accB_lt s i k
  have : (2 : Int) ^ k ≤ 2 ^ 5 := by
    have := Nat.pow_le_pow_right (n := 2) (by omega) hk
    exact_mod_cast this
  omega
theorem accB_dig (s : ByteArray) (t : Nat) : accB s (6 * t) 6 = dig s t := by
  have a := bt_lt s (3 * (t / 4)); have b := bt_lt s (3 * (t / 4) + 1); have c := bt_lt s (3 * (t / 4) + 2)
  unfold dig acc3
  rcases (by omega : t % 4 = 0 ∨ t % 4 = 1 ∨ t % 4 = 2 ∨ t % 4 = 3) with h | h | h | h
  · have e : t = 4 * (t / 4) + 0 := by omega
    have b0 : ∀ k, bit8 s (6 * t + k) = bt s ((6 * t + k) / 8) / 2 ^ (7 - (6 * t + k) % 8) % 2 := fun k => rfl
    simp only [accB, b0]
    rw [show (6 * t + 0) / 8 = 3 * (t / 4) + 0 by omega, show (6 * t + 0) % 8 = 0 by omega]
    rw [show (6 * t + 1) / 8 = 3 * (t / 4) + 0 by omega, show (6 * t + 1) % 8 = 1 by omega]
    rw [show (6 * t + 2) / 8 = 3 * (t / 4) + 0 by omega, show (6 * t + 2) % 8 = 2 by omega]
    rw [show (6 * t + 3) / 8 = 3 * (t / 4) + 0 by omega, show (6 * t + 3) % 8 = 3 by omega]
    rw [show (6 * t + 4) / 8 = 3 * (t / 4) + 0 by omega, show (6 * t + 4) % 8 = 4 by omega]
    rw [show (6 * t + 5) / 8 = 3 * (t / 4) + 0 by omega, show (6 * t + 5) % 8 = 5 by omega]
    rw [h]
    try simp only [Nat.add_zero]
    revert a b c
    generalize bt s (3 * (t / 4)) = x
    generalize bt s (3 * (t / 4) + 1) = y
    generalize bt s (3 * (t / 4) + 2) = z
    intro a b c
    simp
    omega
  · have e : t = 4 * (t / 4) + 1 := by omega
    have b0 : ∀ k, bit8 s (6 * t + k) = bt s ((6 * t + k) / 8) / 2 ^ (7 - (6 * t + k) % 8) % 2 := fun k => rfl
    simp only [accB, b0]
    rw [show (6 * t + 0) / 8 = 3 * (t / 4) + 0 by omega, show (6 * t + 0) % 8 = 6 by omega]
    rw [show (6 * t + 1) / 8 = 3 * (t / 4) + 0 by omega, show (6 * t + 1) % 8 = 7 by omega]
    rw [show (6 * t + 2) / 8 = 3 * (t / 4) + 1 by omega, show (6 * t + 2) % 8 = 0 by omega]
    rw [show (6 * t + 3) / 8 = 3 * (t / 4) + 1 by omega, show (6 * t + 3) % 8 = 1 by omega]
    rw [show (6 * t + 4) / 8 = 3 * (t / 4) + 1 by omega, show (6 * t + 4) % 8 = 2 by omega]
    rw [show (6 * t + 5) / 8 = 3 * (t / 4) + 1 by omega, show (6 * t + 5) % 8 = 3 by omega]
    rw [h]
    try simp only [Nat.add_zero]
    revert a b c
    generalize bt s (3 * (t / 4)) = x
    generalize bt s (3 * (t / 4) + 1) = y
    generalize bt s (3 * (t / 4) + 2) = z
    intro a b c
    simp
    omega
  · have e : t = 4 * (t / 4) + 2 := by omega
    have b0 : ∀ k, bit8 s (6 * t + k) = bt s ((6 * t + k) / 8) / 2 ^ (7 - (6 * t + k) % 8) % 2 := fun k => rfl
    simp only [accB, b0]
    rw [show (6 * t + 0) / 8 = 3 * (t / 4) + 1 by omega, show (6 * t + 0) % 8 = 4 by omega]
    rw [show (6 * t + 1) / 8 = 3 * (t / 4) + 1 by omega, show (6 * t + 1) % 8 = 5 by omega]
    rw [show (6 * t + 2) / 8 = 3 * (t / 4) + 1 by omega, show (6 * t + 2) % 8 = 6 by omega]
    rw [show (6 * t + 3) / 8 = 3 * (t / 4) + 1 by omega, show (6 * t + 3) % 8 = 7 by omega]
    rw [show (6 * t + 4) / 8 = 3 * (t / 4) + 2 by omega, show (6 * t + 4) % 8 = 0 by omega]
    rw [show (6 * t + 5) / 8 = 3 * (t / 4) + 2 by omega, show (6 * t + 5) % 8 = 1 by omega]
    rw [h]
    try simp only [Nat.add_zero]
    revert a b c
    generalize bt s (3 * (t / 4)) = x
    generalize bt s (3 * (t / 4) + 1) = y
    generalize bt s (3 * (t / 4) + 2) = z
    intro a b c
    simp
    omega
  · have e : t = 4 * (t / 4) + 3 := by omega
    have b0 : ∀ k, bit8 s (6 * t + k) = bt s ((6 * t + k) / 8) / 2 ^ (7 - (6 * t + k) % 8) % 2 := fun k => rfl
    simp only [accB, b0]
    rw [show (6 * t + 0) / 8 = 3 * (t / 4) + 2 by omega, show (6 * t + 0) % 8 = 2 by omega]
    rw [show (6 * t + 1) / 8 = 3 * (t / 4) + 2 by omega, show (6 * t + 1) % 8 = 3 by omega]
    rw [show (6 * t + 2) / 8 = 3 * (t / 4) + 2 by omega, show (6 * t + 2) % 8 = 4 by omega]
    rw [show (6 * t + 3) / 8 = 3 * (t / 4) + 2 by omega, show (6 * t + 3) % 8 = 5 by omega]
    rw [show (6 * t + 4) / 8 = 3 * (t / 4) + 2 by omega, show (6 * t + 4) % 8 = 6 by omega]
    rw [show (6 * t + 5) / 8 = 3 * (t / 4) + 2 by omega, show (6 * t + 5) % 8 = 7 by omega]
    rw [h]
    try simp only [Nat.add_zero]
    revert a b c
    generalize bt s (3 * (t / 4)) = x
    generalize bt s (3 * (t / 4) + 1) = y
    generalize bt s (3 * (t / 4) + 2) = z
    intro a b c
    simp
    omega
def slLen : Value → Nat | .slice _ n _ => n | _ => 0

def InRel (s : ByteArray) (w : World) (v4 v5 : Value) (wr : World) : Prop :=
  ∃ (i m c : Nat) (A : Option Addr), v5 = .int .i64 i ∧ i ≤ s.size ∧ m = 8 * i ∧ v4 = .slice A m c ∧ wr.ownsRow w.heap.size 5 1 (.slice A m c) m (cellsOf m (bit8 s)) ∧ Below w.heap.size w wr
def BitRel (s : ByteArray) (i : Nat) (w : World) (v4 v6 : Value) (wr : World) : Prop :=
  ∃ (j m c : Nat) (A : Option Addr), v6 = .int .i64 (7 - (j : Int)) ∧ j ≤ 8 ∧ m = 8 * i + j ∧ v4 = .slice A m c ∧ wr.ownsRow w.heap.size 5 1 (.slice A m c) m (cellsOf m (bit8 s)) ∧ Below w.heap.size w wr
def PadRel (s : ByteArray) (w : World) (v4 : Value) (wr : World) : Prop :=
  ∃ (j m c : Nat) (A : Option Addr), m = 8 * s.size + j ∧ j ≤ 5 ∧ (∀ j', j' < j → (8 * s.size + j') % 6 ≠ 0) ∧ v4 = .slice A m c ∧ wr.ownsRow w.heap.size 5 1 (.slice A m c) m (cellsOf m (bit8 s)) ∧ Below w.heap.size w wr
def WrRel (s : ByteArray) (m : Nat) (W : World) (v7 v8 : Value) (wr : World) : Prop :=
  ∃ (i t c : Nat) (A : Option Addr), v8 = .int .i64 i ∧ i = 6 * t ∧ i ≤ m ∧ v7 = .slice A t c ∧ wr.ownsRow W.heap.size 5 1 (.slice A t c) t (cellsOf t (ech s)) ∧ Below W.heap.size W wr
def ReadRel (s : ByteArray) (i : Nat) (W : World) (v9 v53 : Value) (wr : World) : Prop :=
  ∃ (k : Nat) (n : Int), k ≤ 6 ∧ v53 = .int .i64 k ∧ v9 = .int .i64 n ∧ n = accB s i k ∧ wr = W

set_option maxHeartbeats 8000000 in
set_option maxRecDepth 100000 in
theorem encodeOf_any (s : ByteArray) (w : World) (hs : s.size ≤ 20000) :
    Calls Try.prog 12 #[.string s] w (CodePost (len64 s.size) (ech s) 0 w) := by
  go_enter Try.func12, Try.ntmps12
  go_wp2_with fail
  go_loopw [4, 5] (InRel s w) (fun _ v5 _ => 40000 - (intOf v5).toNat)
  case atStart => exact ⟨0, 0, 0, none, rfl, by omega, rfl, rfl, World.ownsRow_nil _ _ _ _, Below.refl _ _⟩
  case round =>
    obtain ⟨i, m, c, A, rfl, hi, hm, rfl, hown, hb⟩ := hrel
    have HM := hide hm
    have hmb : m ≤ 160000 := by omega
    by_cases hlt : i < s.size
    · clear hm
      have hlt' : (i : Int) < s.size := by omega
      have hib : i ≤ 20000 := by omega
      go_wp2_with fail
      go_loopw [4, 6] (BitRel s i w) (fun _ v6 _ => ((intOf v6) + 1).toNat)
      case atStart => exact ⟨0, m, c, A, rfl, by omega, HM.out, rfl, hown, hb⟩
      clear hown hb
      case round =>
        obtain ⟨j, m, c, A, rfl, hj, hm, rfl, hown, hb⟩ := hrel
        have HM2 := hide hm
        have hmb : m ≤ 160010 := by omega
        clear hm
        have hx := bt_index (s := s) (i := i) hlt wr
        have hbt := bt_lt s i
        obtain ⟨b, hbb⟩ : ∃ b, b = bt s i := ⟨_, rfl⟩
        rw [← hbb] at hx hbt
        obtain ⟨hbt0, hbt1⟩ := hbt
        have HB := hide hbb
        clear hbb
        rcases (by omega : j = 0 ∨ j = 1 ∨ j = 2 ∨ j = 3 ∨ j = 4 ∨ j = 5 ∨ j = 6 ∨ j = 7 ∨ j = 8) with rfl | rfl | rfl | rfl | rfl | rfl | rfl | rfl | rfl
        · go_wp2_with (at_builtin; refine app1 bytTy wr w rfl _ _ rfl w.heap.size rfl hown hb hb.size _ rfl rfl rfl (by omega) ?_; intro g' c' w1 hown' hb' _ _)
          go_roundw
          case rel => first | exact ⟨1, m + 1, c', _, by simp, by omega, by have := HM2.out; omega, rfl, by rw [cellsOf_succ m (bit8 s) (b / 128 % 2) (by rw [HM2.out, bit8_at s i 0 (by omega), HB.out]; rfl)]; exact hown', hb'⟩ | exact ⟨_, _, ⟨1, m + 1, c', _, by simp, by omega, by have := HM2.out; omega, rfl, by rw [cellsOf_succ m (bit8 s) (b / 128 % 2) (by rw [HM2.out, bit8_at s i 0 (by omega), HB.out]; rfl)]; exact hown', hb'⟩, rfl, rfl⟩
          case measure => simp [intOf]
        · go_wp2_with (at_builtin; refine app1 bytTy wr w rfl _ _ rfl w.heap.size rfl hown hb hb.size _ rfl rfl rfl (by omega) ?_; intro g' c' w1 hown' hb' _ _)
          go_roundw
          case rel => first | exact ⟨2, m + 1, c', _, by simp, by omega, by have := HM2.out; omega, rfl, by rw [cellsOf_succ m (bit8 s) (b / 64 % 2) (by rw [HM2.out, bit8_at s i 1 (by omega), HB.out]; rfl)]; exact hown', hb'⟩ | exact ⟨_, _, ⟨2, m + 1, c', _, by simp, by omega, by have := HM2.out; omega, rfl, by rw [cellsOf_succ m (bit8 s) (b / 64 % 2) (by rw [HM2.out, bit8_at s i 1 (by omega), HB.out]; rfl)]; exact hown', hb'⟩, rfl, rfl⟩
          case measure => simp [intOf]
        · go_wp2_with (at_builtin; refine app1 bytTy wr w rfl _ _ rfl w.heap.size rfl hown hb hb.size _ rfl rfl rfl (by omega) ?_; intro g' c' w1 hown' hb' _ _)
          go_roundw
          case rel => first | exact ⟨3, m + 1, c', _, by simp, by omega, by have := HM2.out; omega, rfl, by rw [cellsOf_succ m (bit8 s) (b / 32 % 2) (by rw [HM2.out, bit8_at s i 2 (by omega), HB.out]; rfl)]; exact hown', hb'⟩ | exact ⟨_, _, ⟨3, m + 1, c', _, by simp, by omega, by have := HM2.out; omega, rfl, by rw [cellsOf_succ m (bit8 s) (b / 32 % 2) (by rw [HM2.out, bit8_at s i 2 (by omega), HB.out]; rfl)]; exact hown', hb'⟩, rfl, rfl⟩
          case measure => simp [intOf]
        · go_wp2_with (at_builtin; refine app1 bytTy wr w rfl _ _ rfl w.heap.size rfl hown hb hb.size _ rfl rfl rfl (by omega) ?_; intro g' c' w1 hown' hb' _ _)
          go_roundw
          case rel => first | exact ⟨4, m + 1, c', _, by simp, by omega, by have := HM2.out; omega, rfl, by rw [cellsOf_succ m (bit8 s) (b / 16 % 2) (by rw [HM2.out, bit8_at s i 3 (by omega), HB.out]; rfl)]; exact hown', hb'⟩ | exact ⟨_, _, ⟨4, m + 1, c', _, by simp, by omega, by have := HM2.out; omega, rfl, by rw [cellsOf_succ m (bit8 s) (b / 16 % 2) (by rw [HM2.out, bit8_at s i 3 (by omega), HB.out]; rfl)]; exact hown', hb'⟩, rfl, rfl⟩
          case measure => simp [intOf]
        · go_wp2_with (at_builtin; refine app1 bytTy wr w rfl _ _ rfl w.heap.size rfl hown hb hb.size _ rfl rfl rfl (by omega) ?_; intro g' c' w1 hown' hb' _ _)
          go_roundw
          case rel => first | exact ⟨5, m + 1, c', _, by simp, by omega, by have := HM2.out; omega, rfl, by rw [cellsOf_succ m (bit8 s) (b / 8 % 2) (by rw [HM2.out, bit8_at s i 4 (by omega), HB.out]; rfl)]; exact hown', hb'⟩ | exact ⟨_, _, ⟨5, m + 1, c', _, by simp, by omega, by have := HM2.out; omega, rfl, by rw [cellsOf_succ m (bit8 s) (b / 8 % 2) (by rw [HM2.out, bit8_at s i 4 (by omega), HB.out]; rfl)]; exact hown', hb'⟩, rfl, rfl⟩
          case measure => simp [intOf]
        · go_wp2_with (at_builtin; refine app1 bytTy wr w rfl _ _ rfl w.heap.size rfl hown hb hb.size _ rfl rfl rfl (by omega) ?_; intro g' c' w1 hown' hb' _ _)
          go_roundw
          case rel => first | exact ⟨6, m + 1, c', _, by simp, by omega, by have := HM2.out; omega, rfl, by rw [cellsOf_succ m (bit8 s) (b / 4 % 2) (by rw [HM2.out, bit8_at s i 5 (by omega), HB.out]; rfl)]; exact hown', hb'⟩ | exact ⟨_, _, ⟨6, m + 1, c', _, by simp, by omega, by have := HM2.out; omega, rfl, by rw [cellsOf_succ m (bit8 s) (b / 4 % 2) (by rw [HM2.out, bit8_at s i 5 (by omega), HB.out]; rfl)]; exact hown', hb'⟩, rfl, rfl⟩
          case measure => simp [intOf]
        · go_wp2_with (at_builtin; refine app1 bytTy wr w rfl _ _ rfl w.heap.size rfl hown hb hb.size _ rfl rfl rfl (by omega) ?_; intro g' c' w1 hown' hb' _ _)
          go_roundw
          case rel => first | exact ⟨7, m + 1, c', _, by simp, by omega, by have := HM2.out; omega, rfl, by rw [cellsOf_succ m (bit8 s) (b / 2 % 2) (by rw [HM2.out, bit8_at s i 6 (by omega), HB.out]; rfl)]; exact hown', hb'⟩ | exact ⟨_, _, ⟨7, m + 1, c', _, by simp, by omega, by have := HM2.out; omega, rfl, by rw [cellsOf_succ m (bit8 s) (b / 2 % 2) (by rw [HM2.out, bit8_at s i 6 (by omega), HB.out]; rfl)]; exact hown', hb'⟩, rfl, rfl⟩
          case measure => simp [intOf]
        · go_wp2_with (at_builtin; refine app1 bytTy wr w rfl _ _ rfl w.heap.size rfl hown hb hb.size _ rfl rfl rfl (by omega) ?_; intro g' c' w1 hown' hb' _ _)
          go_roundw
          case rel => first | exact ⟨8, m + 1, c', _, by simp, by omega, by have := HM2.out; omega, rfl, by rw [cellsOf_succ m (bit8 s) (b % 2) (by rw [HM2.out, bit8_at s i 7 (by omega), HB.out]; simp)]; exact hown', hb'⟩ | exact ⟨_, _, ⟨8, m + 1, c', _, by simp, by omega, by have := HM2.out; omega, rfl, by rw [cellsOf_succ m (bit8 s) (b % 2) (by rw [HM2.out, bit8_at s i 7 (by omega), HB.out]; simp)]; exact hown', hb'⟩, rfl, rfl⟩
          case measure => simp [intOf]
        · go_wp2_with fail
          go_roundw
          case rel => exact ⟨i + 1, m, c, A, by go_num, by omega, by have := HM2.out; omega, rfl, hown, hb⟩
          case measure => simp [intOf]; omega
    · have hmi : m = 8 * s.size := by omega
      clear HM hm
      go_wp2_with fail
      go_loopw [4] (PadRel s w) (fun v4 _ => 8 * s.size + 6 - slLen v4)
      case atStart => exact ⟨0, m, c, A, by omega, by omega, fun j' hj' => absurd hj' (by omega), rfl, hown, hb⟩
      clear hown hb hmi hmb
      case round =>
        obtain ⟨W3, hW3⟩ : ∃ W, W = wr := ⟨_, rfl⟩
        subst hW3
        obtain ⟨j, m, c, A, hm, hj, hjn, rfl, hown, hb⟩ := hrel
        have HM := hide (And.intro hm hjn)
        have hmb : m ≤ 160005 := by omega
        clear hm hjn
        by_cases h6 : (m : Int) % 6 = 0
        · have h6' : ((m : Int) % 6 != 0) = false := by simpa using h6
          have hT : m = 6 * len64 s.size := by have h1 := HM.out.1; unfold len64; split <;> omega
          have HT := hide hT
          clear hT
          go_wp2_with fail
          go_loopw [7, 8] (WrRel s m W3) (fun _ v8 _ => 160010 - (intOf v8).toNat)
          case atStart => exact ⟨0, 0, 0, none, rfl, rfl, by omega, rfl, World.ownsRow_nil _ _ _ _, Below.refl _ _⟩
          have HO := hide (And.intro hown hb)
          clear hown hb h6 h6'
          case round =>
            obtain ⟨i, t, c7, A7, rfl, hi, him, rfl, hown, hb⟩ := hrel
            have HI := hide hi
            have ht : t ≤ 30000 := by omega
            clear hi
            by_cases hlt2 : i < m
            · have hlt3 : (i : Int) < (m : Int) := by omega
              obtain ⟨g, rfl, hmc, hcell⟩ := own_rd HO.out.1 (by omega)
              have him6 : i + 6 ≤ m := by have := HI.out; have := HT.out; omega
              have hs1 : (i : Int) ≤ (i : Int) + 6 := by omega
              have hs2 : (i : Int) + 6 ≤ (c : Int) := by omega
              have HC := hide (fun j hj => keepb hb (hcell j hj))
              clear hcell
              have hi6 : (i : Int) + 6 - (i : Int) = 6 := by omega
              go_wp2_with fail
              go_loopw [9, 53] (ReadRel s i wr) (fun _ v53 _ => 6 - (intOf v53).toNat)
              case atStart => exact ⟨0, 0, by omega, rfl, rfl, rfl, rfl⟩
              clear hs1 hs2 hi6
              case round =>
                obtain ⟨k, n, hk, rfl, rfl, hn, rfl⟩ := hrel
                by_cases hk6 : k < 6
                · have hn2 := accB_lt32 s i k (by omega)
                  rw [← hn] at hn2
                  obtain ⟨hn0, hn1⟩ := hn2
                  have HN := hide hn
                  clear hn
                  have hbt := bit8_lt s (i + k)
                  have a0 := HC.out (i + k) (by omega)
                  obtain ⟨b, hbb⟩ : ∃ b, b = bit8 s (i + k) := ⟨_, rfl⟩
                  rw [← hbb] at a0 hbt
                  obtain ⟨hbt0, hbt1⟩ := hbt
                  have HB := hide hbb
                  clear hbb
                  have hki : (k : Int) < 6 := by omega
                  go_wp2_with fail
                  go_roundw
                  case rel => exact ⟨k + 1, 2 * n + b, by omega, by go_num, rfl, by rw [HN.out, HB.out]; rfl, rfl⟩
                  case measure => simp [intOf]; omega
                · have hn2 := accB_lt s i 6
                  rw [show k = 6 by omega] at hn
                  rw [← hn] at hn2
                  obtain ⟨hn0, hn1⟩ := hn2
                  rw [HI.out, accB_dig] at hn
                  have HN := hide hn
                  clear hn
                  have hn64 : n < 64 := hn1
                  have hd := digs_index (x := n) (by omega) (by omega) wr
                  obtain ⟨d, hdd⟩ : ∃ d, d = bt digs n.toNat := ⟨_, rfl⟩
                  rw [← hdd] at hd
                  have HD := hide hdd
                  clear hdd hn1
                  go_wp2_with (at_builtin; refine app1 bytTy wr W3 rfl _ _ rfl W3.heap.size rfl hown hb hb.size _ rfl rfl rfl (by omega) ?_; intro g' c' w1 hown' hb' _ _)
                  go_roundw
                  case rel => exact ⟨i + 6, t + 1, c', _, by go_num, by have := HI.out; omega, him6, rfl, by rw [cellsOf_succ t (ech s) d (by rw [HD.out, HN.out]; rfl)]; exact hown', hb'⟩
                  case measure => simp [intOf]; omega
            · have htl : t = len64 s.size := by have := HI.out; have := HT.out; omega
              have HL := hide htl
              clear htl
              have hlt3 : ¬ (i : Int) < (m : Int) := by omega
              have hcv := conv_own hown
              go_wp2_with fail
              go_ret2
              exact ⟨by rw [← HL.out]; rfl, HO.out.2.trans (hb.mono HO.out.2.size)⟩
        · have h6' : ((m : Int) % 6 != 0) = true := by simpa using h6
          have hj4 : j < 5 := by
            rcases Nat.lt_or_ge j 5 with h | h
            · exact h
            · have h0 := HM.out.2 0 (by omega); have h2 := HM.out.2 2 (by omega); have h4 := HM.out.2 4 (by omega)
              rcases (by omega : s.size % 3 = 0 ∨ s.size % 3 = 1 ∨ s.size % 3 = 2) with h | h | h <;> omega
          go_wp2_with (at_builtin; refine app1 bytTy W3 w rfl _ _ rfl w.heap.size rfl hown hb hb.size _ rfl rfl rfl (by omega) ?_; intro g' c' w1 hown' hb' _ _)
          go_roundw
          case rel => exact ⟨j + 1, m + 1, c', _, by have := HM.out.1; omega, by omega, fun j' hj' => (by
            rcases (by omega : j' < j ∨ j' = j) with h | rfl
            · exact HM.out.2 j' h
            · have := HM.out.1; omega), rfl, by rw [cellsOf_succ m (bit8 s) 0 (by rw [bit8_end (by have := HM.out.1; omega)])]; exact hown', hb'⟩
          case measure => simp [slLen]; have := HM.out.1; omega
end Go.Proofs.Ytkldjnopapipfaa.codes
