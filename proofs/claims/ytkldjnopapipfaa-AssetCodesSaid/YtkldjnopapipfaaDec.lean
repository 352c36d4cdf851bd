/-
  asset.Decode64: the bytes it reads.
-/
import Derived.Test.YtkldjnopapipfaaDec0
namespace Go.Proofs.Ytkldjnopapipfaa.codes
open Go.RowKit
attribute [local go_sem] i64_and63 i64_and1 u8_and1

theorem at_w {K : Act → World → Prop} {a : Act} {W : World} (F : World → Prop) (hF : F W) (h : ∀ W', F W' → K a W') : K a W := h W hF

def DOut (s : ByteArray) (w : World) (v4 v5 : Value) (wr : World) : Prop :=
  ∃ (i g m c : Nat) (A : Option Addr), v5 = .int .i64 i ∧ i = 4 * g ∧ v4 = .slice A m c ∧ wr.ownsRow w.heap.size 5 1 (.slice A m c) m (cellsOf m (byt s)) ∧ Below w.heap.size w wr ∧
    ((i ≤ s.size ∧ m = 3 * g) ∨ (s.size < i ∧ m = outLen s.size ∧ noTail s)) ∧ i ≤ s.size + 3 ∧ good s i
def DSum (s : ByteArray) (i : Nat) (W : World) (v6 v31 : Value) (wr : World) : Prop :=
  ∃ (k : Nat) (n : Int), k ≤ 4 ∧ v31 = .int .i64 k ∧ v6 = .int .i64 n ∧ n = accD s i k ∧ wr = W ∧ ∀ k', k' < k → 0 ≤ vl s (i + k')
def DMiss (s : ByteArray) (m cnt : Nat) (W : World) (v65 : Value) (wr : World) : Prop :=
  ∃ k : Nat, k ≤ cnt ∧ v65 = .int .i64 k ∧ wr = W ∧ ∀ k', k' < k → byt s (m + k') = 0

theorem not_right_byte {s : ByteArray} {i : Nat} (hi : i < s.size) (h : vl s i < 0) : ¬ right s := fun hr => by have := hr.1 i hi hi; omega
theorem not_right_one {s : ByteArray} (h : s.size % 4 = 1) : ¬ right s := fun hr => hr.2.1 h
theorem not_right_tail {s : ByteArray} {t : Nat} (h0 : outLen s.size ≤ t) (h1 : t < 3 * ((s.size + 3) / 4)) (h : byt s t ≠ 0) : ¬ right s := fun hr => h (hr.2.2 t h0 h1)
theorem cells1 (m : Nat) (f : Nat → Int) {a : Int} (ha : a = f m) : cellsOf (m + 1) f = cellsOf m f ++ [.int .u8 a] := by
  rw [cellsOf_succ m f a ha]
theorem cells2 (m : Nat) (f : Nat → Int) {a b : Int} (ha : a = f m) (hb : b = f (m + 1)) : cellsOf (m + 2) f = cellsOf m f ++ [.int .u8 a, .int .u8 b] := by
  rw [cellsOf_succ (m + 1) f b hb, cells1 m f ha]; simp
theorem cells3 (m : Nat) (f : Nat → Int) {a b c : Int} (ha : a = f m) (hb : b = f (m + 1)) (hc : c = f (m + 2)) : cellsOf (m + 3) f = cellsOf m f ++ [.int .u8 a, .int .u8 b, .int .u8 c] := by
  rw [cellsOf_succ (m + 2) f c hc, cells2 m f ha hb]; simp
theorem news1 {w : World} {g : Nat} {a : Value} (q0 : w.cell? ⟨g, 0, none⟩ = some a) : ∀ j u, [a][j]? = some u → w.cell? ⟨g, j, none⟩ = some u
  | 0, _, h => by cases h; exact q0
theorem news2 {w : World} {g : Nat} {a b : Value} (q0 : w.cell? ⟨g, 0, none⟩ = some a) (q1 : w.cell? ⟨g, 1, none⟩ = some b) : ∀ j u, [a, b][j]? = some u → w.cell? ⟨g, j, none⟩ = some u
  | 0, _, h => by cases h; exact q0
  | 1, _, h => by cases h; exact q1
theorem news3 {w : World} {g : Nat} {a b c : Value} (q0 : w.cell? ⟨g, 0, none⟩ = some a) (q1 : w.cell? ⟨g, 1, none⟩ = some b) (q2 : w.cell? ⟨g, 2, none⟩ = some c) : ∀ j u, [a, b, c][j]? = some u → w.cell? ⟨g, j, none⟩ = some u
  | 0, _, h => by cases h; exact q0
  | 1, _, h => by cases h; exact q1
  | 2, _, h => by cases h; exact q2
theorem byt0 (s : ByteArray) (g : Nat) : byt s (3 * g) = acc4 s g / 65536 % 256 := by rw [show 3 * g = 3 * g + 0 from rfl, byt_at s g 0 (by omega)]; rfl
theorem byt1 (s : ByteArray) (g : Nat) : byt s (3 * g + 1) = acc4 s g / 256 % 256 := by rw [byt_at s g 1 (by omega)]; rfl
theorem byt2 (s : ByteArray) (g : Nat) : byt s (3 * g + 2) = acc4 s g % 256 := by rw [byt_at s g 2 (by omega)]; simp

set_option maxHeartbeats 8000000 in
set_option maxRecDepth 100000 in
theorem decode_any (s : ByteArray) (w : World) (hs : s.size ≤ 200000) :
    Calls Try.prog 13 #[.string s] w (DecPost s w) := by
  by_cases h41 : s.size % 4 = 1
  · have h41' : (s.size : Int) % 4 = 1 := by omega
    have HR := hide (not_right_one h41)
    clear h41
    go_enter Try.func13, Try.ntmps13
    go_wp2_with fail
    go_ret2
    exact ⟨.inr ⟨HR.out, rfl⟩, Below.refl _ _⟩
  have h41' : ((s.size : Int) % 4 == 1) = false := by simp; omega
  have H41 := hide h41
  clear h41
  go_enter Try.func13, Try.ntmps13
  go_wp2_with fail
  go_loopw [4, 5] (DOut s w) (fun _ v5 _ => 400000 - (intOf v5).toNat)
  case atStart => exact ⟨0, 0, 0, 0, none, rfl, rfl, rfl, World.ownsRow_nil _ _ _ _, Below.refl _ _, .inl ⟨by omega, rfl⟩, by omega, fun i hi _ => absurd hi (by omega)⟩
  clear h41'
  case round =>
    obtain ⟨i, g, m, c, A, rfl, hi, rfl, hown, hb, hm, hg2, hgood⟩ := hrel
    have HI := hide hi
    have HG := hide hgood
    clear hgood
    by_cases hlt : i < s.size
    · have hm4 : m = 3 * g := by omega
      have HM := hide hm4
      have hmb : m ≤ 200000 := by omega
      have hgb : 3 * g ≤ 150000 := by omega
      have hr41 : ¬ s.size = i + 1 := by have := H41.out; omega
      clear hm hg2 hm4
      have hlt' : (i : Int) < s.size := by omega
      have hib : i ≤ 200000 := by omega
      rcases (by omega : 4 ≤ s.size - i ∨ s.size = i + 3 ∨ s.size = i + 2) with hsz | hsz | hsz
      all_goals clear hr41
      · have hmin : min (4 : Int) ((s.size : Int) - (i : Int)) = 4 := by omega
        have HSZ := hide (show i + 4 ≤ s.size by omega)
        clear hsz
        clear hi
        go_wp2_with fail
        clear hmin
        go_loopw [6, 31] (DSum s i wr) (fun _ v31 _ => 4 - (intOf v31).toNat)
        case atStart => exact ⟨0, 0, by omega, rfl, rfl, rfl, rfl, fun k' hk' => absurd hk' (by omega)⟩
        case round =>
          obtain ⟨k, n, hk, rfl, rfl, hn, rfl, hgk⟩ := hrel
          by_cases hk3 : k < 4
          · have hn2 := accD_lt3 s i k (by omega) hgk
            rw [← hn] at hn2
            obtain ⟨hn0, hn1⟩ := hn2
            have HN := hide (And.intro hn hgk)
            clear hn hgk
            have hiks : i + k < s.size := by have := HSZ.out; omega
            have hx := bt_index2 (s := s) (i := i) (k := k) hiks wr
            have hbt := bt_lt s (i + k)
            have hvl := vl_lt s (i + k)
            have HC := hide (fun w => vl_any (s := s) (i := i + k) hiks w)
            have HIK := hide hiks
            obtain ⟨b, hbb⟩ : ∃ b, b = bt s (i + k) := ⟨_, rfl⟩
            rw [← hbb] at hx hbt HC
            obtain ⟨d, hdd⟩ : ∃ d, d = vl s (i + k) := ⟨_, rfl⟩
            rw [← hdd] at hvl HC
            obtain ⟨hbt0, hbt1⟩ := hbt
            obtain ⟨hvl0, hvl1⟩ := hvl
            have HD := hide hdd
            clear hbb hdd hiks
            by_cases hd : d < 0
            · go_wp2_with (go_at_call 34; refine (HC.out _).mono ?_; rintro e w' ⟨rfl, rfl⟩)
              go_ret2
              exact ⟨.inr ⟨not_right_byte HIK.out (by rw [← HD.out]; exact hd), rfl⟩, hb⟩
            · go_wp2_with (go_at_call 34; refine (HC.out _).mono ?_; rintro e w' ⟨rfl, rfl⟩)
              go_roundw
              case rel => exact ⟨k + 1, n * 64 + d, by omega, by go_num, rfl, by rw [HN.out.1, HD.out]; rfl, rfl, fun k' hk' => by
                rcases (by omega : k' < k ∨ k' = k) with h | rfl
                · exact HN.out.2 k' h
                · rw [← HD.out]; omega⟩
              case measure => simp [intOf]; omega
          · have hk4 : k = 4 := by omega
            rw [hk4, show accD s i 4 = acc4 s g by rw [HI.out, accD_four]] at hn
            have hn2 := accD_lt s i 4 (by rw [hk4] at hgk; exact hgk)
            rw [show accD s i 4 = acc4 s g by rw [HI.out, accD_four], ← hn] at hn2
            obtain ⟨hn0, hn1⟩ := hn2
            have hn24 : n < 16777216 := hn1
            clear hn1
            have HN := hide (And.intro hn hgk)
            have HK := hide hk4
            clear hn hgk hk4
            go_wp2_with fail
            refine at_w (fun W => W.ownsRow w.heap.size 5 1 (.slice A m c) m (cellsOf m (byt s)) ∧ Below w.heap.size w W ∧ W.cell? ⟨wr.heap.size, 0, none⟩ = some (.int .u8 (n / 65536)) ∧ W.cell? ⟨wr.heap.size, 1, none⟩ = some (.int .u8 (n / 256 % 256)) ∧ W.cell? ⟨wr.heap.size, 2, none⟩ = some (.int .u8 (n % 256))) ?_ ?_
            · exact ⟨hown.alloc _, hb.alloc hb.size _, (World.cell?_alloc_at _ _ _ _ rfl).trans rfl, (World.cell?_alloc_at _ _ _ _ rfl).trans rfl, (World.cell?_alloc_at _ _ _ _ rfl).trans rfl⟩
            rintro W ⟨hown1, hb1, q0, q1, q2⟩
            clear hown hb
            have hB0 : byt s m = n / 65536 := by rw [HM.out, byt0, ← HN.out.1]; omega
            have hB1 : byt s (m + 1) = n / 256 % 256 := by rw [HM.out, byt1, ← HN.out.1]
            have hB2 : byt s (m + 2) = n % 256 := by rw [HM.out, byt2, ← HN.out.1]
            have HBY := hide (And.intro hB0 (And.intro hB1 hB2))
            clear hB0 hB1 hB2
            go_loopw [65] (DMiss s (m + 3) 0 W) (fun v65 _ => 0 - (intOf v65).toNat)
            case atStart => exact ⟨0, by omega, rfl, rfl, fun k' hk' => absurd hk' (by omega)⟩
            case round =>
              obtain ⟨k, hk, rfl, rfl, hz⟩ := hrel
              have HZ := hide hz
              clear hz
              rcases (by omega : k = 0) with rfl
              · go_wp2_with (at_builtin; refine appN bytTy wr w rfl _ _ rfl w.heap.size rfl hown1 hb1 hb1.size _ 3 _ [.int .u8 (n / 65536), .int .u8 (n / 256 % 256), .int .u8 (n % 256)] rfl rfl (news3 q0 q1 q2) rfl (by omega) (by omega) ?_; intro g' c' w1 hown' hb')
                go_roundw
                case rel => exact ⟨i + 4, g + 1, m + 3, c', _, by go_num, by have := HI.out; omega, rfl, by rw [cells3 m (byt s) HBY.out.1.symm HBY.out.2.1.symm HBY.out.2.2.symm]; exact hown', hb', .inl ⟨by have := HSZ.out; omega, by have := HM.out; omega⟩, by have := HSZ.out; omega, fun j hj hjs => (by
                  rcases (by omega : j < i ∨ i ≤ j) with h | h
                  · exact HG.out j h hjs
                  · obtain ⟨k', rfl⟩ : ∃ k', j = i + k' := ⟨j - i, by omega⟩
                    exact HN.out.2 k' (by have := HK.out; omega))⟩
                case measure => simp [intOf]; omega
      · have HSZ := hide hsz
        have hmin : min (4 : Int) ((s.size : Int) - (i : Int)) = 3 := by omega
        clear hsz
        clear hi
        go_wp2_with fail
        clear hmin
        go_loopw [6, 31] (DSum s i wr) (fun _ v31 _ => 4 - (intOf v31).toNat)
        case atStart => exact ⟨0, 0, by omega, rfl, rfl, rfl, rfl, fun k' hk' => absurd hk' (by omega)⟩
        case round =>
          obtain ⟨k, n, hk, rfl, rfl, hn, rfl, hgk⟩ := hrel
          by_cases hk3 : k < 4
          · have hn2 := accD_lt3 s i k (by omega) hgk
            rw [← hn] at hn2
            obtain ⟨hn0, hn1⟩ := hn2
            have HN := hide (And.intro hn hgk)
            clear hn hgk
            by_cases hkm : k < 3
            · have hki : (k : Int) < 3 := by omega
              have hiks : i + k < s.size := by have := HSZ.out; omega
              have hx := bt_index2 (s := s) (i := i) (k := k) hiks wr
              have hbt := bt_lt s (i + k)
              have hvl := vl_lt s (i + k)
              have HC := hide (fun w => vl_any (s := s) (i := i + k) hiks w)
              have HIK := hide hiks
              obtain ⟨b, hbb⟩ : ∃ b, b = bt s (i + k) := ⟨_, rfl⟩
              rw [← hbb] at hx hbt HC
              obtain ⟨d, hdd⟩ : ∃ d, d = vl s (i + k) := ⟨_, rfl⟩
              rw [← hdd] at hvl HC
              obtain ⟨hbt0, hbt1⟩ := hbt
              obtain ⟨hvl0, hvl1⟩ := hvl
              have HD := hide hdd
              clear hbb hdd hiks
              by_cases hd : d < 0
              · go_wp2_with (go_at_call 34; refine (HC.out _).mono ?_; rintro e w' ⟨rfl, rfl⟩)
                go_ret2
                exact ⟨.inr ⟨not_right_byte HIK.out (by rw [← HD.out]; exact hd), rfl⟩, hb⟩
              · go_wp2_with (go_at_call 34; refine (HC.out _).mono ?_; rintro e w' ⟨rfl, rfl⟩)
                go_roundw
                case rel => exact ⟨k + 1, n * 64 + d, by omega, by go_num, rfl, by rw [HN.out.1, HD.out]; rfl, rfl, fun k' hk' => by
                  rcases (by omega : k' < k ∨ k' = k) with h | rfl
                  · exact HN.out.2 k' h
                  · rw [← HD.out]; omega⟩
                case measure => simp [intOf]; omega
            · have hki : ¬ (k : Int) < 3 := by omega
              have hb0 : vl s (i + k) = 0 := vl_end (by have := HSZ.out; omega)
              have HB := hide hb0
              clear hb0
              go_wp2_with fail
              go_roundw
              case rel => exact ⟨k + 1, n * 64, by omega, by go_num, rfl, by rw [accD, HN.out.1, HB.out]; omega, rfl, fun k' hk' => by
                rcases (by omega : k' < k ∨ k' = k) with h | rfl
                · exact HN.out.2 k' h
                · rw [HB.out]; omega⟩
              case measure => simp [intOf]; omega
          · have hk4 : k = 4 := by omega
            rw [hk4, show accD s i 4 = acc4 s g by rw [HI.out, accD_four]] at hn
            have hn2 := accD_lt s i 4 (by rw [hk4] at hgk; exact hgk)
            rw [show accD s i 4 = acc4 s g by rw [HI.out, accD_four], ← hn] at hn2
            obtain ⟨hn0, hn1⟩ := hn2
            have hn24 : n < 16777216 := hn1
            clear hn1
            have HN := hide (And.intro hn hgk)
            have HK := hide hk4
            clear hn hgk hk4
            go_wp2_with fail
            refine at_w (fun W => W.ownsRow w.heap.size 5 1 (.slice A m c) m (cellsOf m (byt s)) ∧ Below w.heap.size w W ∧ W.cell? ⟨wr.heap.size, 0, none⟩ = some (.int .u8 (n / 65536)) ∧ W.cell? ⟨wr.heap.size, 1, none⟩ = some (.int .u8 (n / 256 % 256)) ∧ W.cell? ⟨wr.heap.size, 2, none⟩ = some (.int .u8 (n % 256))) ?_ ?_
            · exact ⟨hown.alloc _, hb.alloc hb.size _, (World.cell?_alloc_at _ _ _ _ rfl).trans rfl, (World.cell?_alloc_at _ _ _ _ rfl).trans rfl, (World.cell?_alloc_at _ _ _ _ rfl).trans rfl⟩
            rintro W ⟨hown1, hb1, q0, q1, q2⟩
            clear hown hb
            have hB0 : byt s m = n / 65536 := by rw [HM.out, byt0, ← HN.out.1]; omega
            have hB1 : byt s (m + 1) = n / 256 % 256 := by rw [HM.out, byt1, ← HN.out.1]
            have hB2 : byt s (m + 2) = n % 256 := by rw [HM.out, byt2, ← HN.out.1]
            have HBY := hide (And.intro hB0 (And.intro hB1 hB2))
            clear hB0 hB1 hB2
            go_loopw [65] (DMiss s (m + 2) 1 W) (fun v65 _ => 1 - (intOf v65).toNat)
            case atStart => exact ⟨0, by omega, rfl, rfl, fun k' hk' => absurd hk' (by omega)⟩
            case round =>
              obtain ⟨k, hk, rfl, rfl, hz⟩ := hrel
              have HZ := hide hz
              clear hz
              rcases (by omega : k = 0 ∨ k = 1) with rfl | rfl
              · obtain ⟨x, hx⟩ : ∃ x, x = n % 256 := ⟨_, rfl⟩
                rw [← hx] at q2
                have HX := hide hx
                clear hx
                by_cases hx0 : x = 0
                · subst hx0
                  go_wp2_with fail
                  go_roundw
                  case rel => first | exact ⟨1, by omega, by go_num, rfl, fun k' hk' => (by
                    rcases (by omega : k' < 0 ∨ k' = 0) with h | rfl
                    · exact HZ.out k' h
                    · rw [show m + 2 + 0 = m + 2 by omega, HBY.out.2.2]; exact HX.out.symm)⟩ | exact ⟨_, ⟨1, by omega, by go_num, rfl, fun k' hk' => (by
                    rcases (by omega : k' < 0 ∨ k' = 0) with h | rfl
                    · exact HZ.out k' h
                    · rw [show m + 2 + 0 = m + 2 by omega, HBY.out.2.2]; exact HX.out.symm)⟩, rfl⟩
                  case measure => simp [intOf]
                · have hx1 : (x != 0) = true := by simpa using hx0
                  have HX0 := hide hx0
                  clear hx0
                  go_wp2_with fail
                  go_ret2
                  exact ⟨.inr ⟨not_right_tail (t := m + 2) (by have := HSZ.out; have := HI.out; have := HM.out; unfold outLen; split <;> omega) (by have := HSZ.out; have := HI.out; have := HM.out; omega) (by rw [HBY.out.2.2, ← HX.out]; exact HX0.out), rfl⟩, hb1⟩
              · go_wp2_with (at_builtin; refine appN bytTy wr w rfl _ _ rfl w.heap.size rfl hown1 hb1 hb1.size _ 2 _ [.int .u8 (n / 65536), .int .u8 (n / 256 % 256)] rfl rfl (news2 q0 q1) rfl (by omega) (by omega) ?_; intro g' c' w1 hown' hb')
                go_roundw
                case rel => exact ⟨i + 4, g + 1, m + 2, c', _, by go_num, by have := HI.out; omega, rfl, by rw [cells2 m (byt s) HBY.out.1.symm HBY.out.2.1.symm]; exact hown', hb', .inr ⟨by have := HSZ.out; omega, by have := HSZ.out; have := HI.out; have := HM.out; unfold outLen; split <;> omega, fun t h0 h1 => (by have h2 := HSZ.out; have h3 := HI.out; have h4 := HM.out; unfold outLen at h0; obtain rfl : t = m + 2 + 0 := (by split at h0 <;> omega); exact HZ.out 0 (by omega))⟩, by have := HSZ.out; omega, fun j hj hjs => (by
                  rcases (by omega : j < i ∨ i ≤ j) with h | h
                  · exact HG.out j h hjs
                  · obtain ⟨k', rfl⟩ : ∃ k', j = i + k' := ⟨j - i, by omega⟩
                    exact HN.out.2 k' (by have := HK.out; omega))⟩
                case measure => simp [intOf]; omega
      · have HSZ := hide hsz
        have hmin : min (4 : Int) ((s.size : Int) - (i : Int)) = 2 := by omega
        clear hsz
        clear hi
        go_wp2_with fail
        clear hmin
        go_loopw [6, 31] (DSum s i wr) (fun _ v31 _ => 4 - (intOf v31).toNat)
        case atStart => exact ⟨0, 0, by omega, rfl, rfl, rfl, rfl, fun k' hk' => absurd hk' (by omega)⟩
        case round =>
          obtain ⟨k, n, hk, rfl, rfl, hn, rfl, hgk⟩ := hrel
          by_cases hk3 : k < 4
          · have hn2 := accD_lt3 s i k (by omega) hgk
            rw [← hn] at hn2
            obtain ⟨hn0, hn1⟩ := hn2
            have HN := hide (And.intro hn hgk)
            clear hn hgk
            by_cases hkm : k < 2
            · have hki : (k : Int) < 2 := by omega
              have hiks : i + k < s.size := by have := HSZ.out; omega
              have hx := bt_index2 (s := s) (i := i) (k := k) hiks wr
              have hbt := bt_lt s (i + k)
              have hvl := vl_lt s (i + k)
              have HC := hide (fun w => vl_any (s := s) (i := i + k) hiks w)
              have HIK := hide hiks
              obtain ⟨b, hbb⟩ : ∃ b, b = bt s (i + k) := ⟨_, rfl⟩
              rw [← hbb] at hx hbt HC
              obtain ⟨d, hdd⟩ : ∃ d, d = vl s (i + k) := ⟨_, rfl⟩
              rw [← hdd] at hvl HC
              obtain ⟨hbt0, hbt1⟩ := hbt
              obtain ⟨hvl0, hvl1⟩ := hvl
              have HD := hide hdd
              clear hbb hdd hiks
              by_cases hd : d < 0
              · go_wp2_with (go_at_call 34; refine (HC.out _).mono ?_; rintro e w' ⟨rfl, rfl⟩)
                go_ret2
                exact ⟨.inr ⟨not_right_byte HIK.out (by rw [← HD.out]; exact hd), rfl⟩, hb⟩
              · go_wp2_with (go_at_call 34; refine (HC.out _).mono ?_; rintro e w' ⟨rfl, rfl⟩)
                go_roundw
                case rel => exact ⟨k + 1, n * 64 + d, by omega, by go_num, rfl, by rw [HN.out.1, HD.out]; rfl, rfl, fun k' hk' => by
                  rcases (by omega : k' < k ∨ k' = k) with h | rfl
                  · exact HN.out.2 k' h
                  · rw [← HD.out]; omega⟩
                case measure => simp [intOf]; omega
            · have hki : ¬ (k : Int) < 2 := by omega
              have hb0 : vl s (i + k) = 0 := vl_end (by have := HSZ.out; omega)
              have HB := hide hb0
              clear hb0
              go_wp2_with fail
              go_roundw
              case rel => exact ⟨k + 1, n * 64, by omega, by go_num, rfl, by rw [accD, HN.out.1, HB.out]; omega, rfl, fun k' hk' => by
                rcases (by omega : k' < k ∨ k' = k) with h | rfl
                · exact HN.out.2 k' h
                · rw [HB.out]; omega⟩
              case measure => simp [intOf]; omega
          · have hk4 : k = 4 := by omega
            rw [hk4, show accD s i 4 = acc4 s g by rw [HI.out, accD_four]] at hn
            have hn2 := accD_lt s i 4 (by rw [hk4] at hgk; exact hgk)
            rw [show accD s i 4 = acc4 s g by rw [HI.out, accD_four], ← hn] at hn2
            obtain ⟨hn0, hn1⟩ := hn2
            have hn24 : n < 16777216 := hn1
            clear hn1
            have HN := hide (And.intro hn hgk)
            have HK := hide hk4
            clear hn hgk hk4
            go_wp2_with fail
            refine at_w (fun W => W.ownsRow w.heap.size 5 1 (.slice A m c) m (cellsOf m (byt s)) ∧ Below w.heap.size w W ∧ W.cell? ⟨wr.heap.size, 0, none⟩ = some (.int .u8 (n / 65536)) ∧ W.cell? ⟨wr.heap.size, 1, none⟩ = some (.int .u8 (n / 256 % 256)) ∧ W.cell? ⟨wr.heap.size, 2, none⟩ = some (.int .u8 (n % 256))) ?_ ?_
            · exact ⟨hown.alloc _, hb.alloc hb.size _, (World.cell?_alloc_at _ _ _ _ rfl).trans rfl, (World.cell?_alloc_at _ _ _ _ rfl).trans rfl, (World.cell?_alloc_at _ _ _ _ rfl).trans rfl⟩
            rintro W ⟨hown1, hb1, q0, q1, q2⟩
            clear hown hb
            have hB0 : byt s m = n / 65536 := by rw [HM.out, byt0, ← HN.out.1]; omega
            have hB1 : byt s (m + 1) = n / 256 % 256 := by rw [HM.out, byt1, ← HN.out.1]
            have hB2 : byt s (m + 2) = n % 256 := by rw [HM.out, byt2, ← HN.out.1]
            have HBY := hide (And.intro hB0 (And.intro hB1 hB2))
            clear hB0 hB1 hB2
            go_loopw [65] (DMiss s (m + 1) 2 W) (fun v65 _ => 2 - (intOf v65).toNat)
            case atStart => exact ⟨0, by omega, rfl, rfl, fun k' hk' => absurd hk' (by omega)⟩
            case round =>
              obtain ⟨k, hk, rfl, rfl, hz⟩ := hrel
              have HZ := hide hz
              clear hz
              rcases (by omega : k = 0 ∨ k = 1 ∨ k = 2) with rfl | rfl | rfl
              · obtain ⟨x, hx⟩ : ∃ x, x = n / 256 % 256 := ⟨_, rfl⟩
                rw [← hx] at q1
                have HX := hide hx
                clear hx
                by_cases hx0 : x = 0
                · subst hx0
                  go_wp2_with fail
                  go_roundw
                  case rel => first | exact ⟨1, by omega, by go_num, rfl, fun k' hk' => (by
                    rcases (by omega : k' < 0 ∨ k' = 0) with h | rfl
                    · exact HZ.out k' h
                    · rw [show m + 1 + 0 = m + 1 by omega, HBY.out.2.1]; exact HX.out.symm)⟩ | exact ⟨_, ⟨1, by omega, by go_num, rfl, fun k' hk' => (by
                    rcases (by omega : k' < 0 ∨ k' = 0) with h | rfl
                    · exact HZ.out k' h
                    · rw [show m + 1 + 0 = m + 1 by omega, HBY.out.2.1]; exact HX.out.symm)⟩, rfl⟩
                  case measure => simp [intOf]
                · have hx1 : (x != 0) = true := by simpa using hx0
                  have HX0 := hide hx0
                  clear hx0
                  go_wp2_with fail
                  go_ret2
                  exact ⟨.inr ⟨not_right_tail (t := m + 1) (by have := HSZ.out; have := HI.out; have := HM.out; unfold outLen; split <;> omega) (by have := HSZ.out; have := HI.out; have := HM.out; omega) (by rw [HBY.out.2.1, ← HX.out]; exact HX0.out), rfl⟩, hb1⟩
              · obtain ⟨x, hx⟩ : ∃ x, x = n % 256 := ⟨_, rfl⟩
                rw [← hx] at q2
                have HX := hide hx
                clear hx
                by_cases hx0 : x = 0
                · subst hx0
                  go_wp2_with fail
                  go_roundw
                  case rel => first | exact ⟨2, by omega, by go_num, rfl, fun k' hk' => (by
                    rcases (by omega : k' < 1 ∨ k' = 1) with h | rfl
                    · exact HZ.out k' h
                    · rw [show m + 1 + 1 = m + 2 by omega, HBY.out.2.2]; exact HX.out.symm)⟩ | exact ⟨_, ⟨2, by omega, by go_num, rfl, fun k' hk' => (by
                    rcases (by omega : k' < 1 ∨ k' = 1) with h | rfl
                    · exact HZ.out k' h
                    · rw [show m + 1 + 1 = m + 2 by omega, HBY.out.2.2]; exact HX.out.symm)⟩, rfl⟩
                  case measure => simp [intOf]
                · have hx1 : (x != 0) = true := by simpa using hx0
                  have HX0 := hide hx0
                  clear hx0
                  go_wp2_with fail
                  go_ret2
                  exact ⟨.inr ⟨not_right_tail (t := m + 2) (by have := HSZ.out; have := HI.out; have := HM.out; unfold outLen; split <;> omega) (by have := HSZ.out; have := HI.out; have := HM.out; omega) (by rw [HBY.out.2.2, ← HX.out]; exact HX0.out), rfl⟩, hb1⟩
              · go_wp2_with (at_builtin; refine appN bytTy wr w rfl _ _ rfl w.heap.size rfl hown1 hb1 hb1.size _ 1 _ [.int .u8 (n / 65536)] rfl rfl (news1 q0) rfl (by omega) (by omega) ?_; intro g' c' w1 hown' hb')
                go_roundw
                case rel => exact ⟨i + 4, g + 1, m + 1, c', _, by go_num, by have := HI.out; omega, rfl, by rw [cells1 m (byt s) HBY.out.1.symm]; exact hown', hb', .inr ⟨by have := HSZ.out; omega, by have := HSZ.out; have := HI.out; have := HM.out; unfold outLen; split <;> omega, fun t h0 h1 => (by have h2 := HSZ.out; have h3 := HI.out; have h4 := HM.out; unfold outLen at h0; obtain ⟨k', hk', rfl⟩ : ∃ k', k' < 2 ∧ t = m + 1 + k' := ⟨t - (m + 1), by split at h0 <;> omega, by split at h0 <;> omega⟩; exact HZ.out k' hk')⟩, by have := HSZ.out; omega, fun j hj hjs => (by
                  rcases (by omega : j < i ∨ i ≤ j) with h | h
                  · exact HG.out j h hjs
                  · obtain ⟨k', rfl⟩ : ∃ k', j = i + k' := ⟨j - i, by omega⟩
                    exact HN.out.2 k' (by have := HK.out; omega))⟩
                case measure => simp [intOf]; omega
    · have hlen : m = outLen s.size ∧ noTail s := by
        rcases hm with ⟨h1, h2⟩ | ⟨_, h2, h3⟩
        · refine ⟨by unfold outLen; rw [if_pos (by omega)]; omega, fun t h3 h4 => ?_⟩
          unfold outLen at h3
          rw [if_pos (by omega)] at h3
          omega
        · exact ⟨h2, h3⟩
      have HL := hide (And.intro hlen (show i ≥ s.size by omega))
      clear hlen hm hg2 hi
      have hlt' : ¬ (i : Int) < s.size := by omega
      have hcv := conv_own hown
      go_wp2_with fail
      go_ret2
      exact ⟨.inl ⟨⟨fun j hj h => HG.out j (by have := HL.out.2; omega) h, H41.out, HL.out.1.2⟩, by rw [← HL.out.1.1]; rfl⟩, hb⟩
end Go.Proofs.Ytkldjnopapipfaa.codes
