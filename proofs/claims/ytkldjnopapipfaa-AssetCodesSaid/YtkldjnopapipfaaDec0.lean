/-
  Reading base 64: the digits' values, the bytes they make, and what is wrong; append of a part of a block; the library's IndexByte, Index and Contains at bytes.
-/
import Derived.Test.YtkldjnopapipfaaEncOf
import Derived.Lib.Strings
import Derived.Lib.Walk
import Derived.Lib.Bytealg
namespace Go.Proofs.Ytkldjnopapipfaa.codes
open Go.RowKit

theorem indexByte_lt : ∀ (l : List UInt8) (c : UInt8), -1 ≤ Lib.indexByte l c ∧ Lib.indexByte l c < l.length ∨ Lib.indexByte l c = -1
  | [], _ => .inr rfl
  | b :: l, c => by
    unfold Lib.indexByte
    have := indexByte_lt l c
    split
    · left; simp
    · split
      · right; rfl
      · rename_i h1 h2
        simp only [beq_iff_eq] at h2
        left
        simp only [List.length_cons]
        omega

/-- The value of a digit: -1: it is none; 0 behind the end. -/
def vl (s : ByteArray) (i : Nat) : Int := if i < s.size then Lib.indexByte digs.data.toList (bt s i).toNat.toUInt8 else 0
theorem vl_lt (s : ByteArray) (i : Nat) : -1 ≤ vl s i ∧ vl s i < 64 := by
  unfold vl
  split
  · have h := indexByte_lt digs.data.toList (bt s i).toNat.toUInt8
    have hl : digs.data.toList.length = 64 := rfl
    rw [hl] at h
    omega
  · omega
theorem vl_end {s : ByteArray} {i : Nat} (h : s.size ≤ i) : vl s i = 0 := by
  unfold vl
  rw [if_neg (by omega)]

def acc4 (s : ByteArray) (g : Nat) : Int := vl s (4 * g) * 262144 + vl s (4 * g + 1) * 4096 + vl s (4 * g + 2) * 64 + vl s (4 * g + 3)
def byt (s : ByteArray) (t : Nat) : Int := acc4 s (t / 3) / 2 ^ (16 - 8 * (t % 3)) % 256
def outLen (n : Nat) : Nat := 3 * (n / 4) + (if n % 4 = 0 then 0 else n % 4 - 1)
theorem outLen_eq (n : Nat) : outLen n = 3 * n / 4 := by unfold outLen; split <;> omega
theorem byt_at (s : ByteArray) (g k : Nat) (hk : k < 3) : byt s (3 * g + k) = acc4 s g / 2 ^ (16 - 8 * k) % 256 := by
  unfold byt
  rw [show (3 * g + k) / 3 = g by omega, show (3 * g + k) % 3 = k by omega]

def good (s : ByteArray) (m : Nat) : Prop := ∀ i, i < m → i < s.size → 0 ≤ vl s i
def noTail (s : ByteArray) : Prop := ∀ t, outLen s.size ≤ t → t < 3 * ((s.size + 3) / 4) → byt s t = 0
def right (s : ByteArray) : Prop := good s s.size ∧ s.size % 4 ≠ 1 ∧ noTail s

def DecPost (s : ByteArray) (w : World) (e : Ending) (w' : World) : Prop :=
  ((right s ∧ e = .returned (.tuple #[.string (strOf (outLen s.size) (byt s)), .int .i64 0])) ∨ (¬ right s ∧ e = .returned (.tuple #[.string ⟨#[]⟩, .int .i64 8]))) ∧ Below w.heap.size w w'

def accD (s : ByteArray) (i : Nat) : Nat → Int
  | 0 => 0
  | k + 1 => accD s i k * 64 + vl s (i + k)
theorem accD_lt (s : ByteArray) (i : Nat) : ∀ k, (∀ k', k' < k → 0 ≤ vl s (i + k')) → 0 ≤ accD s i k ∧ accD s i k < 64 ^ k
  | 0, _ => by simp [accD]
  | k + 1, h => by
    have := accD_lt s i k (fun k' hk' => h k' (by omega))
    have := vl_lt s (i + k)
    have := h k (by omega)
    simp only [accD, Int.pow_succ]
    omega
theorem accD_lt3 (s : ByteArray) (i k : Nat) (hk : k ≤ 3) (h : ∀ k', k' < k → 0 ≤ vl s (i + k')) : 0 ≤ accD s i k ∧ accD s i k < 262144 := by
  have h1 := accD_lt s i k h
  have : (64 : Int) ^ k ≤ 64 ^ 3 := by
    have := Nat.pow_le_pow_right (n := 64) (by omega) hk
    exact_mod_cast this
  omega
theorem accD_four (s : ByteArray) (g : Nat) : accD s (4 * g) 4 = acc4 s g := by
  simp [accD, acc4]; omega

section
variable {P : Program} {t e : TypeId} {z : Value} {size bytes : Nat}
/-- 'out = append(out, b[:m]...)': b lies in a block of its own from its beginning on. -/
theorem appN (T : SlTy P t e z size bytes) (w w0 : World) {ops : Array Oper} {rest : List Oper} {o : Oper} {a : Act} {Q : Exit → Act → World → Prop} (hgd : o.guard = none) (s x : Operand)
    (ho : o.op = .call { callee := .builtin .append, args := #[s, x], argTypes := #[t, t] })
    (B : Nat) {A : Option Addr} {n c : Nat} {xs : List Value} (hs : a.eval s = .slice A n c) (hown : w.ownsRow B e size (.slice A n c) n xs) (hb : Below B w0 w) (hB : B ≤ w.heap.size)
    (g0 m c0 : Nat) (news : List Value) (hx : a.eval x = .slice (some ⟨g0, 0, none⟩) m c0) (hl : news.length = m * size) (hnews : ∀ j u, news[j]? = some u → w.cell? ⟨g0, j, none⟩ = some u) (h1 : news.all Value.oneCell' = true)
    (hm : 0 < m) (hn : (n + m) * bytes ≤ 140737488355328)
    (h : ∀ g c' w', w'.ownsRow B e size (.slice (some ⟨g, 0, none⟩) (n + m) c') (n + m) (xs ++ news) → Below B w0 w' → wpList P ops Q rest (a.put o.dst (.slice (some ⟨g, 0, none⟩) (n + m) c')) w') :
    wpList P ops Q (o :: rest) a w := by
  obtain ⟨i, hi, hz, hsz, hby⟩ := T.info
  have h63 : n + m ≤ maxLen := by
    have := Nat.le_mul_of_pos_right (n + m) T.bpos
    unfold maxLen; omega
  refine wpList_append_lies _ hgd s x t ho B e i z size bytes T.und hi hz hsz hby T.zs T.pos _ n xs hs hown ⟨g0, 0, none⟩ m c0 news hx hl
    (fun j u hu => by
      have hadd : (⟨g0, 0, none⟩ : Addr).add j = ⟨g0, j, none⟩ := by unfold Addr.add; split <;> simp_all
      rw [hadd]; exact hnews j u hu) (List.all_eq_true.1 h1) hm h63 hn hB w.heap.size rfl ?_
  intro g cap w' hown' hg hat hlt
  exact h g cap w' hown' (below_own hb hB hown hg)
end

set_option maxHeartbeats 1000000 in
set_option maxRecDepth 100000 in
theorem slIndexByte_any (s : ByteArray) (c : Int) (w : World) :
    Calls Try.prog 74 #[.string s, .int .u8 c] w fun e w' => e = .returned (.int .i64 (Lib.indexByte s.data.toList c.toNat.toUInt8)) ∧ w' = w := by
  go_enter Try.func74, Try.ntmps74
  go_wp2
  rw [run_callFunc_extern Try.func118 (by kernel_rfl) (by kernel_rfl) (by kernel_rfl) (e := Extern.BytealgIndexByte.indexByte) (by kernel_rfl), Lib.run_indexByteString]
  simp only [Result.andThen]
  rw [Oper.upon_value]
  go_wp2
  go_ret
  exact ⟨rfl, rfl⟩

theorem indexByte_any (s : ByteArray) (c : Int) (w : World) :
    Calls Try.prog 34 #[.string s, .int .u8 c] w fun e w' => e = .returned (.int .i64 (Lib.indexByte s.data.toList c.toNat.toUInt8)) ∧ w' = w := by
  go_enter Try.func34, Try.ntmps34
  go_wp2_with (go_at_call 74; refine (slIndexByte_any _ _ _).mono ?_; rintro e w' ⟨rfl, rfl⟩)
  go_ret
  exact ⟨rfl, rfl⟩

theorem vl_any {s : ByteArray} {i : Nat} (hi : i < s.size) (w : World) :
    Calls Try.prog 34 #[.string digs, .int .u8 (bt s i)] w fun e w' => e = .returned (.int .i64 (vl s i)) ∧ w' = w := by
  have h := indexByte_any digs (bt s i) w
  have e : vl s i = Lib.indexByte digs.data.toList (bt s i).toNat.toUInt8 := if_pos hi
  rw [e]
  exact h

/-- A bit of the digits' values. -/
def vbit (s : ByteArray) (p : Nat) : Int := vl s (p / 6) / 2 ^ (5 - p % 6) % 2

def IxRel (n : Nat) (f : Nat → Int) (x : Int) (w : World) (v8 : Value) (wr : World) : Prop := ∃ k : Nat, k ≤ n ∧ v8 = .int .i64 k ∧ wr = w ∧ ∀ j, j < k → f j ≠ x
def ixOf (n : Nat) (f : Nat → Int) (x r : Int) : Prop := (r = -1 ∧ ∀ j, j < n → f j ≠ x) ∨ (0 ≤ r ∧ ∃ j, j < n ∧ f j = x)

set_option maxHeartbeats 1000000 in
set_option maxRecDepth 100000 in
theorem indexBytes_any (A : Option Addr) (n c : Nat) (f : Nat → Int) (x : Int) (w : World) (hn : n ≤ 1000000000) (h : n = 0 ∨ ∃ b o, A = some ⟨b, o, none⟩ ∧ ∀ j, j < n → w.cell? ⟨b, o + j, none⟩ = some (.int .u8 (f j))) :
    Calls Try.prog 75 #[.slice A n c, .int .u8 x] w fun e w' => (∃ r, e = .returned (.int .i64 r) ∧ ixOf n f x r) ∧ w' = w := by
  have H := hide h; clear h
  go_enter Try.func75, Try.ntmps75
  go_wp2_with fail
  go_loopw [8] (IxRel n f x w) (fun v8 _ => n - (intOf v8).toNat)
  case atStart => exact ⟨0, by omega, rfl, rfl, fun j hj => absurd hj (by omega)⟩
  case round =>
    obtain ⟨k, hk, rfl, rfl, hne⟩ := hrel
    have HN := hide hne; clear hne
    by_cases hlt : k < n
    · rcases H.out with h0 | ⟨b, o, rfl, hc⟩
      · omega
      · have a0 := hc k hlt
        have HC := hide hc
        clear hc
        have hki : (k : Int) < n := by omega
        obtain ⟨y, hy⟩ : ∃ y, y = f k := ⟨_, rfl⟩
        rw [← hy] at a0
        have HY := hide hy
        clear hy
        by_cases hxy : x = y
        · subst hxy
          go_wp2_with fail
          go_ret
          exact ⟨⟨k, rfl, .inr ⟨by omega, k, hlt, HY.out.symm⟩⟩, rfl⟩
        · have hxy' : (x == y) = false := by simpa using hxy
          have HX := hide hxy
          clear hxy
          go_wp2_with fail
          go_roundw
          case rel => exact ⟨k + 1, by omega, by go_num, rfl, fun j hj => by
            rcases (by omega : j < k ∨ j = k) with h | rfl
            · exact HN.out j h
            · exact fun e => HX.out (by rw [HY.out, e])⟩
          case measure => simp [intOf]; omega
    · have hki : ¬ (k : Int) < n := by omega
      go_wp2_with fail
      go_ret
      exact ⟨⟨-1, rfl, .inl ⟨rfl, fun j hj => HN.out j (by omega)⟩⟩, rfl⟩

theorem containsBytes_any (A : Option Addr) (n c : Nat) (f : Nat → Int) (x : Int) (w : World) (hn : n ≤ 1000000000) (h : n = 0 ∨ ∃ b o, A = some ⟨b, o, none⟩ ∧ ∀ j, j < n → w.cell? ⟨b, o + j, none⟩ = some (.int .u8 (f j))) :
    Calls Try.prog 35 #[.slice A n c, .int .u8 x] w fun e w' => (∃ b : Bool, e = .returned (.bool b) ∧ (b = true ↔ ∃ j, j < n ∧ f j = x)) ∧ w' = w := by
  have H := hide h; clear h
  go_enter Try.func35, Try.ntmps35
  go_wp2_with (go_at_call 75; refine (indexBytes_any A n c f x _ hn H.out).mono ?_; rintro e w' ⟨⟨r, rfl, hr⟩, rfl⟩)
  go_ret
  refine ⟨⟨_, rfl, ?_⟩, rfl⟩
  rcases hr with ⟨rfl, h⟩ | ⟨h0, j, hj, hx⟩
  · simp
    exact fun j hj e => h j hj e
  · simp [h0]
    exact ⟨j, hj, hx⟩
end Go.Proofs.Ytkldjnopapipfaa.codes
