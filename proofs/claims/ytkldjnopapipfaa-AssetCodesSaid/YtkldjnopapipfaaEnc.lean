/-
  asset.Encode64: the digits it writes.
-/
import Derived.Test.YtkldjnopapipfaaEnc0
namespace Go.Proofs.Ytkldjnopapipfaa.codes
open Go.RowKit
attribute [local go_sem] i64_and63 i64_and1

def CodePost (n : Nat) (f : Nat → Int) (z : Int) (w : World) (e : Ending) (w' : World) : Prop := e = .returned (.tuple #[.string (strOf n f), .int .i64 z]) ∧ Below w.heap.size w w'
theorem strOf_zero (f : Nat → Int) : strOf 0 f = ⟨#[]⟩ := rfl

/-- What the first inner loop has summed up. -/
def accE (s : ByteArray) (i : Nat) : Nat → Int
  | 0 => 0
  | k + 1 => accE s i k * 256 + bt s (i + k)
theorem accE_lt (s : ByteArray) (i : Nat) : ∀ k, k ≤ 2 → 0 ≤ accE s i k ∧ accE s i k < 65536
  | 0, _ => by simp [accE]
  | 1, _ => by have := bt_lt s i; simp [accE]; omega
  | 2, _ => by have := bt_lt s i; have := bt_lt s (i + 1); simp [accE]; omega
theorem accE_three (s : ByteArray) (g : Nat) : accE s (3 * g) 3 = acc3 s g := by
  simp [accE, acc3]; omega
theorem acc3_lt (s : ByteArray) (g : Nat) : 0 ≤ acc3 s g ∧ acc3 s g < 16777216 := by
  have := bt_lt s (3 * g); have := bt_lt s (3 * g + 1); have := bt_lt s (3 * g + 2)
  unfold acc3
  omega
theorem ech_at (s : ByteArray) (g k : Nat) (hk : k < 4) : ech s (4 * g + k) = bt digs (acc3 s g / 2 ^ (18 - 6 * k) % 64).toNat := by
  unfold ech dig
  rw [show (4 * g + k) / 4 = g by omega, show (4 * g + k) % 4 = k by omega]

def OutRel (s : ByteArray) (w : World) (v4 v5 : Value) (wr : World) : Prop :=
  ∃ (i g m c : Nat) (A : Option Addr), v5 = .int .i64 i ∧ i = 3 * g ∧ v4 = .slice A m c ∧ wr.ownsRow w.heap.size 5 1 (.slice A m c) m (cellsOf m (ech s)) ∧ Below w.heap.size w wr ∧
    ((i ≤ s.size ∧ m = 4 * g) ∨ (s.size < i ∧ m = len64 s.size)) ∧ i ≤ s.size + 2
def SumRel (s : ByteArray) (i : Nat) (W : World) (v6 v24 : Value) (wr : World) : Prop :=
  ∃ (k : Nat) (n : Int), k ≤ 3 ∧ v24 = .int .i64 k ∧ v6 = .int .i64 n ∧ n = accE s i k ∧ wr = W
def DigRel (s : ByteArray) (g many : Nat) (w : World) (v4 v43 : Value) (wr : World) : Prop :=
  ∃ (k m c : Nat) (A : Option Addr), k ≤ many + 1 ∧ v43 = .int .i64 k ∧ m = 4 * g + k ∧ v4 = .slice A m c ∧ wr.ownsRow w.heap.size 5 1 (.slice A m c) m (cellsOf m (ech s)) ∧ Below w.heap.size w wr

theorem bt_index2 {s : ByteArray} {i k : Nat} (hi : i + k < s.size) (w : World) : (Instr.index 9 (.string s) (.int .i64 ((i : Int) + (k : Int)))).run Try.prog w = .ok (.int .u8 (bt s (i + k))) w := by
  have := bt_index (s := s) (i := i + k) hi w
  rwa [Int.natCast_add] at this

set_option maxHeartbeats 8000000 in
set_option maxRecDepth 100000 in
theorem encode_any (s : ByteArray) (w : World) (hs : s.size ≤ 20000) :
    Calls Try.prog 11 #[.string s] w (CodePost (len64 s.size) (ech s) 0 w) := by
  go_enter Try.func11, Try.ntmps11
  go_wp2_with fail
  go_loopw [4, 5] (OutRel s w) (fun _ v5 _ => 40000 - (intOf v5).toNat)
  case atStart => exact ⟨0, 0, 0, 0, none, rfl, rfl, rfl, World.ownsRow_nil _ _ _ _, Below.refl _ _, .inl ⟨by omega, rfl⟩, by omega⟩
  case round =>
    obtain ⟨i, g, m, c, A, rfl, hi, rfl, hown, hb, hm, hg2⟩ := hrel
    have HI := hide hi
    by_cases hlt : i < s.size
    · have hm4 : m = 4 * g := by omega
      have HM := hide hm4
      have hmb : m ≤ 30000 := by omega
      clear hm hg2 hm4
      have hlt' : (i : Int) < s.size := by omega
      have hib : i ≤ 20000 := by omega
      rcases (by omega : 3 ≤ s.size - i ∨ s.size = i + 2 ∨ s.size = i + 1) with hsz | hsz | hsz
      · have hsz1 : ¬ ((s.size : Int) - i < 3) := by omega
        have hsz2 : (3 : Int) ≤ (s.size : Int) - i := by omega
        have HSZ := hide (show i + 3 ≤ s.size by omega)
        clear hsz
        clear hi
        go_wp2_with fail
        clear hsz1 hsz2
        go_loopw [6, 24] (SumRel s i wr) (fun _ v24 _ => 3 - (intOf v24).toNat)
        case atStart => exact ⟨0, 0, by omega, rfl, rfl, rfl, rfl⟩
        case round =>
          obtain ⟨k, n, hk, rfl, rfl, hn, rfl⟩ := hrel
          by_cases hk3 : k < 3
          · have hn2 := accE_lt s i k (by omega)
            rw [← hn] at hn2
            obtain ⟨hn0, hn1⟩ := hn2
            have HN := hide hn
            clear hn
            have hbt := bt_lt s (i + k)
            obtain ⟨hbt0, hbt1⟩ := hbt
            have hx := bt_index2 (s := s) (i := i) (k := k) (by have := HSZ.out; omega) wr
            obtain ⟨b, hbb⟩ : ∃ b, b = bt s (i + k) := ⟨_, rfl⟩
            rw [← hbb] at hx hbt0 hbt1
            have HB := hide hbb
            clear hbb
            go_wp2_with fail
            go_roundw
            case rel => exact ⟨k + 1, n * 256 + b, by omega, by go_num, rfl, by rw [HN.out, HB.out]; rfl, rfl⟩
            case measure => simp [intOf]; omega
          · rw [show k = 3 by omega, show accE s i 3 = acc3 s g by rw [HI.out, accE_three]] at hn
            have hgb : 4 * g ≤ 30000 := by have := HM.out; omega
            have hn2 := acc3_lt s g
            rw [← hn] at hn2
            obtain ⟨hn0, hn1⟩ := hn2
            have HN := hide hn
            clear hn
            go_wp2_with fail
            go_loopw [4, 43] (DigRel s g 3 w) (fun _ v43 _ => 4 - (intOf v43).toNat)
            case atStart => exact ⟨0, m, c, A, by omega, rfl, HM.out, rfl, hown, hb⟩
            clear hown hb
            case round =>
              obtain ⟨k, m, c, A, hk, rfl, hm, rfl, hown, hb⟩ := hrel
              have HM2 := hide hm
              have hmb : m ≤ 30010 := by omega
              clear hm
              rcases (by omega : k = 0 ∨ k = 1 ∨ k = 2 ∨ k = 3 ∨ k = 4) with rfl | rfl | rfl | rfl | rfl
              · have hd := digs_index (x := n / 262144 % 64) (by omega) (by omega) wr
                obtain ⟨d, hdd⟩ : ∃ d, d = bt digs (n / 262144 % 64).toNat := ⟨_, rfl⟩
                rw [← hdd] at hd
                have HD := hide hdd
                clear hdd
                go_wp2_with (at_builtin; refine app1 bytTy wr w rfl _ _ rfl w.heap.size rfl hown hb hb.size _ rfl rfl rfl (by omega) ?_; intro g' c' w1 hown' hb' _ _)
                go_roundw
                case rel => first | exact ⟨1, m + 1, c', _, by omega, by go_num, by have := HM2.out; omega, rfl, by rw [cellsOf_succ m (ech s) d (by rw [HM2.out, ech_at s g 0 (by omega), HD.out, HN.out]; rfl)]; exact hown', hb'⟩ | exact ⟨_, _, _, ⟨1, m + 1, c', _, by omega, by go_num, by have := HM2.out; omega, rfl, by rw [cellsOf_succ m (ech s) d (by rw [HM2.out, ech_at s g 0 (by omega), HD.out, HN.out]; rfl)]; exact hown', hb'⟩, rfl, rfl, rfl⟩
                case measure => simp [intOf]
              · have hd := digs_index (x := n / 4096 % 64) (by omega) (by omega) wr
                obtain ⟨d, hdd⟩ : ∃ d, d = bt digs (n / 4096 % 64).toNat := ⟨_, rfl⟩
                rw [← hdd] at hd
                have HD := hide hdd
                clear hdd
                go_wp2_with (at_builtin; refine app1 bytTy wr w rfl _ _ rfl w.heap.size rfl hown hb hb.size _ rfl rfl rfl (by omega) ?_; intro g' c' w1 hown' hb' _ _)
                go_roundw
                case rel => first | exact ⟨2, m + 1, c', _, by omega, by go_num, by have := HM2.out; omega, rfl, by rw [cellsOf_succ m (ech s) d (by rw [HM2.out, ech_at s g 1 (by omega), HD.out, HN.out]; rfl)]; exact hown', hb'⟩ | exact ⟨_, _, _, ⟨2, m + 1, c', _, by omega, by go_num, by have := HM2.out; omega, rfl, by rw [cellsOf_succ m (ech s) d (by rw [HM2.out, ech_at s g 1 (by omega), HD.out, HN.out]; rfl)]; exact hown', hb'⟩, rfl, rfl, rfl⟩
                case measure => simp [intOf]
              · have hd := digs_index (x := n / 64 % 64) (by omega) (by omega) wr
                obtain ⟨d, hdd⟩ : ∃ d, d = bt digs (n / 64 % 64).toNat := ⟨_, rfl⟩
                rw [← hdd] at hd
                have HD := hide hdd
                clear hdd
                go_wp2_with (at_builtin; refine app1 bytTy wr w rfl _ _ rfl w.heap.size rfl hown hb hb.size _ rfl rfl rfl (by omega) ?_; intro g' c' w1 hown' hb' _ _)
                go_roundw
                case rel => first | exact ⟨3, m + 1, c', _, by omega, by go_num, by have := HM2.out; omega, rfl, by rw [cellsOf_succ m (ech s) d (by rw [HM2.out, ech_at s g 2 (by omega), HD.out, HN.out]; rfl)]; exact hown', hb'⟩ | exact ⟨_, _, _, ⟨3, m + 1, c', _, by omega, by go_num, by have := HM2.out; omega, rfl, by rw [cellsOf_succ m (ech s) d (by rw [HM2.out, ech_at s g 2 (by omega), HD.out, HN.out]; rfl)]; exact hown', hb'⟩, rfl, rfl, rfl⟩
                case measure => simp [intOf]
              · have hd := digs_index (x := n % 64) (by omega) (by omega) wr
                obtain ⟨d, hdd⟩ : ∃ d, d = bt digs (n % 64).toNat := ⟨_, rfl⟩
                rw [← hdd] at hd
                have HD := hide hdd
                clear hdd
                go_wp2_with (at_builtin; refine app1 bytTy wr w rfl _ _ rfl w.heap.size rfl hown hb hb.size _ rfl rfl rfl (by omega) ?_; intro g' c' w1 hown' hb' _ _)
                go_roundw
                case rel => first | exact ⟨4, m + 1, c', _, by omega, by go_num, by have := HM2.out; omega, rfl, by rw [cellsOf_succ m (ech s) d (by rw [HM2.out, ech_at s g 3 (by omega), HD.out, HN.out]; simp)]; exact hown', hb'⟩ | exact ⟨_, _, _, ⟨4, m + 1, c', _, by omega, by go_num, by have := HM2.out; omega, rfl, by rw [cellsOf_succ m (ech s) d (by rw [HM2.out, ech_at s g 3 (by omega), HD.out, HN.out]; simp)]; exact hown', hb'⟩, rfl, rfl, rfl⟩
                case measure => simp [intOf]
              · go_wp2_with fail
                go_roundw
                case rel => exact ⟨i + 3, g + 1, m, c, A, by go_num, by have := HI.out; omega, rfl, hown, hb, by have h1 := HM2.out; have h2 := HSZ.out; have h3 := HI.out; unfold len64; omega, by have := HSZ.out; omega⟩
                case measure => simp [intOf]; omega
      · have HSZ := hide hsz
        have hsz1 : (s.size : Int) = (i : Int) + 2 := by omega
        clear hsz
        clear hi
        go_wp2_with fail
        clear hsz1
        go_loopw [6, 24] (SumRel s i wr) (fun _ v24 _ => 3 - (intOf v24).toNat)
        case atStart => exact ⟨0, 0, by omega, rfl, rfl, rfl, rfl⟩
        case round =>
          obtain ⟨k, n, hk, rfl, rfl, hn, rfl⟩ := hrel
          by_cases hk3 : k < 3
          · have hn2 := accE_lt s i k (by omega)
            rw [← hn] at hn2
            obtain ⟨hn0, hn1⟩ := hn2
            have HN := hide hn
            clear hn
            have hbt := bt_lt s (i + k)
            obtain ⟨hbt0, hbt1⟩ := hbt
            by_cases hkm : k < 2
            · have hki : (k : Int) < 2 := by omega
              have hx := bt_index2 (s := s) (i := i) (k := k) (by have := HSZ.out; omega) wr
              obtain ⟨b, hbb⟩ : ∃ b, b = bt s (i + k) := ⟨_, rfl⟩
              rw [← hbb] at hx hbt0 hbt1
              have HB := hide hbb
              clear hbb
              go_wp2_with fail
              go_roundw
              case rel => exact ⟨k + 1, n * 256 + b, by omega, by go_num, rfl, by rw [HN.out, HB.out]; rfl, rfl⟩
              case measure => simp [intOf]; omega
            · have hki : ¬ (k : Int) < 2 := by omega
              have hb0 : bt s (i + k) = 0 := bt_end (by have := HSZ.out; omega)
              have HB := hide hb0
              clear hb0 hbt0 hbt1
              go_wp2_with fail
              go_roundw
              case rel => exact ⟨k + 1, n * 256, by omega, by go_num, rfl, by rw [accE, HN.out, HB.out]; omega, rfl⟩
              case measure => simp [intOf]; omega
          · rw [show k = 3 by omega, show accE s i 3 = acc3 s g by rw [HI.out, accE_three]] at hn
            have hgb : 4 * g ≤ 30000 := by have := HM.out; omega
            have hn2 := acc3_lt s g
            rw [← hn] at hn2
            obtain ⟨hn0, hn1⟩ := hn2
            have HN := hide hn
            clear hn
            go_wp2_with fail
            go_loopw [4, 43] (DigRel s g 2 w) (fun _ v43 _ => 3 - (intOf v43).toNat)
            case atStart => exact ⟨0, m, c, A, by omega, rfl, HM.out, rfl, hown, hb⟩
            clear hown hb
            case round =>
              obtain ⟨k, m, c, A, hk, rfl, hm, rfl, hown, hb⟩ := hrel
              have HM2 := hide hm
              have hmb : m ≤ 30010 := by omega
              clear hm
              rcases (by omega : k = 0 ∨ k = 1 ∨ k = 2 ∨ k = 3) with rfl | rfl | rfl | rfl
              · have hd := digs_index (x := n / 262144 % 64) (by omega) (by omega) wr
                obtain ⟨d, hdd⟩ : ∃ d, d = bt digs (n / 262144 % 64).toNat := ⟨_, rfl⟩
                rw [← hdd] at hd
                have HD := hide hdd
                clear hdd
                go_wp2_with (at_builtin; refine app1 bytTy wr w rfl _ _ rfl w.heap.size rfl hown hb hb.size _ rfl rfl rfl (by omega) ?_; intro g' c' w1 hown' hb' _ _)
                go_roundw
                case rel => first | exact ⟨1, m + 1, c', _, by omega, by go_num, by have := HM2.out; omega, rfl, by rw [cellsOf_succ m (ech s) d (by rw [HM2.out, ech_at s g 0 (by omega), HD.out, HN.out]; rfl)]; exact hown', hb'⟩ | exact ⟨_, _, _, ⟨1, m + 1, c', _, by omega, by go_num, by have := HM2.out; omega, rfl, by rw [cellsOf_succ m (ech s) d (by rw [HM2.out, ech_at s g 0 (by omega), HD.out, HN.out]; rfl)]; exact hown', hb'⟩, rfl, rfl, rfl⟩
                case measure => simp [intOf]
              · have hd := digs_index (x := n / 4096 % 64) (by omega) (by omega) wr
                obtain ⟨d, hdd⟩ : ∃ d, d = bt digs (n / 4096 % 64).toNat := ⟨_, rfl⟩
                rw [← hdd] at hd
                have HD := hide hdd
                clear hdd
                go_wp2_with (at_builtin; refine app1 bytTy wr w rfl _ _ rfl w.heap.size rfl hown hb hb.size _ rfl rfl rfl (by omega) ?_; intro g' c' w1 hown' hb' _ _)
                go_roundw
                case rel => first | exact ⟨2, m + 1, c', _, by omega, by go_num, by have := HM2.out; omega, rfl, by rw [cellsOf_succ m (ech s) d (by rw [HM2.out, ech_at s g 1 (by omega), HD.out, HN.out]; rfl)]; exact hown', hb'⟩ | exact ⟨_, _, _, ⟨2, m + 1, c', _, by omega, by go_num, by have := HM2.out; omega, rfl, by rw [cellsOf_succ m (ech s) d (by rw [HM2.out, ech_at s g 1 (by omega), HD.out, HN.out]; rfl)]; exact hown', hb'⟩, rfl, rfl, rfl⟩
                case measure => simp [intOf]
              · have hd := digs_index (x := n / 64 % 64) (by omega) (by omega) wr
                obtain ⟨d, hdd⟩ : ∃ d, d = bt digs (n / 64 % 64).toNat := ⟨_, rfl⟩
                rw [← hdd] at hd
                have HD := hide hdd
                clear hdd
                go_wp2_with (at_builtin; refine app1 bytTy wr w rfl _ _ rfl w.heap.size rfl hown hb hb.size _ rfl rfl rfl (by omega) ?_; intro g' c' w1 hown' hb' _ _)
                go_roundw
                case rel => first | exact ⟨3, m + 1, c', _, by omega, by go_num, by have := HM2.out; omega, rfl, by rw [cellsOf_succ m (ech s) d (by rw [HM2.out, ech_at s g 2 (by omega), HD.out, HN.out]; rfl)]; exact hown', hb'⟩ | exact ⟨_, _, _, ⟨3, m + 1, c', _, by omega, by go_num, by have := HM2.out; omega, rfl, by rw [cellsOf_succ m (ech s) d (by rw [HM2.out, ech_at s g 2 (by omega), HD.out, HN.out]; rfl)]; exact hown', hb'⟩, rfl, rfl, rfl⟩
                case measure => simp [intOf]
              · go_wp2_with fail
                go_roundw
                case rel => exact ⟨i + 3, g + 1, m, c, A, by go_num, by have := HI.out; omega, rfl, hown, hb, by have h1 := HM2.out; have h2 := HSZ.out; have h3 := HI.out; unfold len64; right; rw [if_neg (by omega)]; omega, by have := HSZ.out; omega⟩
                case measure => simp [intOf]; omega
      · have HSZ := hide hsz
        have hsz1 : (s.size : Int) = (i : Int) + 1 := by omega
        clear hsz
        clear hi
        go_wp2_with fail
        clear hsz1
        go_loopw [6, 24] (SumRel s i wr) (fun _ v24 _ => 3 - (intOf v24).toNat)
        case atStart => exact ⟨0, 0, by omega, rfl, rfl, rfl, rfl⟩
        case round =>
          obtain ⟨k, n, hk, rfl, rfl, hn, rfl⟩ := hrel
          by_cases hk3 : k < 3
          · have hn2 := accE_lt s i k (by omega)
            rw [← hn] at hn2
            obtain ⟨hn0, hn1⟩ := hn2
            have HN := hide hn
            clear hn
            have hbt := bt_lt s (i + k)
            obtain ⟨hbt0, hbt1⟩ := hbt
            by_cases hkm : k < 1
            · have hki : (k : Int) < 1 := by omega
              have hx := bt_index2 (s := s) (i := i) (k := k) (by have := HSZ.out; omega) wr
              obtain ⟨b, hbb⟩ : ∃ b, b = bt s (i + k) := ⟨_, rfl⟩
              rw [← hbb] at hx hbt0 hbt1
              have HB := hide hbb
              clear hbb
              go_wp2_with fail
              go_roundw
              case rel => exact ⟨k + 1, n * 256 + b, by omega, by go_num, rfl, by rw [HN.out, HB.out]; rfl, rfl⟩
              case measure => simp [intOf]; omega
            · have hki : ¬ (k : Int) < 1 := by omega
              have hb0 : bt s (i + k) = 0 := bt_end (by have := HSZ.out; omega)
              have HB := hide hb0
              clear hb0 hbt0 hbt1
              go_wp2_with fail
              go_roundw
              case rel => exact ⟨k + 1, n * 256, by omega, by go_num, rfl, by rw [accE, HN.out, HB.out]; omega, rfl⟩
              case measure => simp [intOf]; omega
          · rw [show k = 3 by omega, show accE s i 3 = acc3 s g by rw [HI.out, accE_three]] at hn
            have hgb : 4 * g ≤ 30000 := by have := HM.out; omega
            have hn2 := acc3_lt s g
            rw [← hn] at hn2
            obtain ⟨hn0, hn1⟩ := hn2
            have HN := hide hn
            clear hn
            go_wp2_with fail
            go_loopw [4, 43] (DigRel s g 1 w) (fun _ v43 _ => 2 - (intOf v43).toNat)
            case atStart => exact ⟨0, m, c, A, by omega, rfl, HM.out, rfl, hown, hb⟩
            clear hown hb
            case round =>
              obtain ⟨k, m, c, A, hk, rfl, hm, rfl, hown, hb⟩ := hrel
              have HM2 := hide hm
              have hmb : m ≤ 30010 := by omega
              clear hm
              rcases (by omega : k = 0 ∨ k = 1 ∨ k = 2) with rfl | rfl | rfl
              · have hd := digs_index (x := n / 262144 % 64) (by omega) (by omega) wr
                obtain ⟨d, hdd⟩ : ∃ d, d = bt digs (n / 262144 % 64).toNat := ⟨_, rfl⟩
                rw [← hdd] at hd
                have HD := hide hdd
                clear hdd
                go_wp2_with (at_builtin; refine app1 bytTy wr w rfl _ _ rfl w.heap.size rfl hown hb hb.size _ rfl rfl rfl (by omega) ?_; intro g' c' w1 hown' hb' _ _)
                go_roundw
                case rel => first | exact ⟨1, m + 1, c', _, by omega, by go_num, by have := HM2.out; omega, rfl, by rw [cellsOf_succ m (ech s) d (by rw [HM2.out, ech_at s g 0 (by omega), HD.out, HN.out]; rfl)]; exact hown', hb'⟩ | exact ⟨_, _, _, ⟨1, m + 1, c', _, by omega, by go_num, by have := HM2.out; omega, rfl, by rw [cellsOf_succ m (ech s) d (by rw [HM2.out, ech_at s g 0 (by omega), HD.out, HN.out]; rfl)]; exact hown', hb'⟩, rfl, rfl, rfl⟩
                case measure => simp [intOf]
              · have hd := digs_index (x := n / 4096 % 64) (by omega) (by omega) wr
                obtain ⟨d, hdd⟩ : ∃ d, d = bt digs (n / 4096 % 64).toNat := ⟨_, rfl⟩
                rw [← hdd] at hd
                have HD := hide hdd
                clear hdd
                go_wp2_with (at_builtin; refine app1 bytTy wr w rfl _ _ rfl w.heap.size rfl hown hb hb.size _ rfl rfl rfl (by omega) ?_; intro g' c' w1 hown' hb' _ _)
                go_roundw
                case rel => first | exact ⟨2, m + 1, c', _, by omega, by go_num, by have := HM2.out; omega, rfl, by rw [cellsOf_succ m (ech s) d (by rw [HM2.out, ech_at s g 1 (by omega), HD.out, HN.out]; rfl)]; exact hown', hb'⟩ | exact ⟨_, _, _, ⟨2, m + 1, c', _, by omega, by go_num, by have := HM2.out; omega, rfl, by rw [cellsOf_succ m (ech s) d (by rw [HM2.out, ech_at s g 1 (by omega), HD.out, HN.out]; rfl)]; exact hown', hb'⟩, rfl, rfl, rfl⟩
                case measure => simp [intOf]
              · go_wp2_with fail
                go_roundw
                case rel => exact ⟨i + 3, g + 1, m, c, A, by go_num, by have := HI.out; omega, rfl, hown, hb, by have h1 := HM2.out; have h2 := HSZ.out; have h3 := HI.out; unfold len64; right; rw [if_neg (by omega)]; omega, by have := HSZ.out; omega⟩
                case measure => simp [intOf]; omega
    · have hlen : m = len64 s.size := by
        rcases hm with ⟨h1, h2⟩ | ⟨_, h2⟩
        · unfold len64; rw [if_pos (by omega)]; omega
        · exact h2
      have HL := hide hlen
      clear hlen hm hg2 hi
      have hlt' : ¬ (i : Int) < s.size := by omega
      have hcv := conv_own hown
      go_wp2_with fail
      go_ret2
      exact ⟨by rw [← HL.out]; rfl, hb⟩
end Go.Proofs.Ytkldjnopapipfaa.codes
