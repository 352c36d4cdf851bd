/-
  The parts of a bundle as text: the plain law; the program's side.
-/
import Derived.Test.YtiiohopjkepkgaaGreatDoorMp0
import Derived.Test.YtiiohopjkepkgaaGreatDoorPa0
namespace Go.Proofs.YtiiohopjkepkgaaGreatDoor.mp32
open Go.RowKit
set_option linter.unusedVariables false
set_option linter.unusedSimpArgs false
abbrev tabD : ByteArray := ⟨#[48, 49, 50, 51, 52, 53, 54, 55, 56, 57, 97, 98, 99, 100, 101, 102, 103, 104, 105, 106, 107, 108, 109, 110, 111, 112, 113, 114, 115, 116, 117, 118]⟩
theorem tabD_at : ∀ n : Fin 32, tabD.extract n.val (n.val + 1) = bs [dg (n.val : Nat)] := by decide +kernel
theorem tabD_dg {u : Int} (h0 : 0 ≤ u) (h1 : u < 32) : tabD.extract u.toNat (u + 1).toNat = bs [dg u] := by
  obtain ⟨n, rfl⟩ := Int.eq_ofNat_of_zero_le h0
  exact tabD_at ⟨n, by omega⟩
theorem bs_size (l : List UInt8) : (bs l).size = l.length := by simp [bs, ByteArray.size]
theorem bs_app (l m : List UInt8) : bs l ++ bs m = bs (l ++ m) := ByteArray.mk_append_mk _ _
def dv (n : Int) : Nat → Int
  | 0 => n
  | k + 1 => dv n k / 32
theorem dv_b {n : Int} (h0 : 0 ≤ n) : ∀ k, 0 ≤ dv n k ∧ dv n k ≤ n
  | 0 => ⟨h0, Int.le_refl _⟩
  | k + 1 => by have := dv_b h0 k; show 0 ≤ dv n k / 32 ∧ dv n k / 32 ≤ n; omega
def low (n : Int) : Nat → List UInt8
  | 0 => [dg (n % 32)]
  | k + 1 => dg (dv n (k + 1) % 32) :: low n k
theorem low_len (n : Int) : ∀ k, (low n k).length = k + 1
  | 0 => rfl
  | k + 1 => by simp [low, low_len n k]
theorem low_b32 {n : Int} {k : Nat} (h0 : 0 ≤ n) (h1 : n < 1048576) (hk : k ≤ 3) (hz : k = 0 ∨ 0 < dv n k) (he : dv n (k + 1) ≤ 0) : low n k = b32 n := by
  match k, hk with
  | 0, _ =>
    have e : n / 32 ≤ 0 := he
    have e2 : n % 32 = n := by omega
    unfold b32
    rw [if_pos (by omega)]
    show [dg (n % 32)] = _
    rw [e2]
  | 1, _ =>
    have e : n / 32 / 32 ≤ 0 := he
    have e3 : 0 < n / 32 := hz.resolve_left (by decide)
    have e2 : n / 32 % 32 = n / 32 := by omega
    unfold b32
    rw [if_neg (by omega), if_pos (by omega)]
    show [dg (n / 32 % 32), dg (n % 32)] = _
    rw [e2]
  | 2, _ =>
    have e : n / 32 / 32 / 32 ≤ 0 := he
    have e3 : 0 < n / 32 / 32 := hz.resolve_left (by decide)
    have e2 : n / 32 / 32 % 32 = n / 32 / 32 := by omega
    unfold b32
    rw [if_neg (by omega), if_neg (by omega), if_pos (by omega)]
    show [dg (n / 32 / 32 % 32), dg (n / 32 % 32), dg (n % 32)] = _
    rw [e2]
  | 3, _ =>
    have e3 : 0 < n / 32 / 32 / 32 := hz.resolve_left (by decide)
    have e2 : n / 32 / 32 / 32 % 32 = n / 32 / 32 / 32 := by omega
    unfold b32
    rw [if_neg (by omega), if_neg (by omega), if_neg (by omega)]
    show [dg (n / 32 / 32 / 32 % 32), dg (n / 32 / 32 % 32), dg (n / 32 % 32), dg (n % 32)] = _
    rw [e2]
theorem b32_len (n : Int) : (b32 n).length ≤ 4 := by
  unfold b32
  repeat' split
  all_goals simp
/-- The end ahead of a part. -/
def pv (es : List Int) (k : Nat) : Int := if k = 0 then 0 else es.getD (k - 1) 0
theorem pv_s (es : List Int) (k : Nat) : pv es (k + 1) = es.getD k 0 := by simp [pv]
def mon (es : List Int) (k : Nat) : Bool := allN k (fun i => decide (pv es i ≤ es.getD i 0))
theorem mon_b {es : List Int} : ∀ {n : Nat}, mon es n = true → 0 ≤ pv es n ∧ ∀ i, i ≤ n → 0 ≤ pv es i ∧ pv es i ≤ pv es n
  | 0, _ => ⟨by simp [pv], fun i hi => by obtain rfl : i = 0 := by omega
                                          simp [pv]⟩
  | n + 1, h => by
    have h1 : mon es n = true := allN_iff.2 fun k hk => allN_iff.1 h k (by omega)
    have h2 : pv es n ≤ pv es (n + 1) := by
      rw [pv_s]
      simpa using allN_iff.1 h n (by omega)
    obtain ⟨g1, g2⟩ := mon_b h1
    refine ⟨by omega, fun i hi => ?_⟩
    rcases Nat.lt_or_ge n i with h3 | h3
    · obtain rfl : i = n + 1 := by omega
      omega
    · have := g2 i h3
      omega
/-- Whether the numbers of a bundle fit. -/
def formB (b : ByteArray) (ps : List ByteArray) (es : List Int) : Bool := decide (ps.length = es.length) && decide (ps.length ≤ 40) && mon es es.length && decide (pv es es.length = b.size)
theorem formB_iff {b : ByteArray} {ps : List ByteArray} {es : List Int} : formB b ps es = true ↔ ps.length = es.length ∧ ps.length ≤ 40 ∧ mon es es.length = true ∧ pv es es.length = b.size := by simp [formB, and_assoc]
def bunE (b : ByteArray) (ps : List ByteArray) (es : List Int) : Int := if (200000 : Int) < b.size then 4 else if formB b ps es = true then 0 else 1
/-- Whether a string is among the first k ones. -/
def inK (ps : List ByteArray) (k : Nat) (s : ByteArray) : Bool := !allN k (fun i => decide (¬ ps.getD i ⟨#[]⟩ = s))
theorem first_no {p : Nat → Bool} : ∀ {k : Nat}, allN k p = false → ∃ m, m < k ∧ p m = false ∧ ∀ i, i < m → p i = true
  | 0, h => by simp [allN] at h
  | k + 1, h => by
    by_cases h1 : allN k p = true
    · refine ⟨k, by omega, ?_, fun i hi => allN_iff.1 h1 i hi⟩
      by_cases h2 : p k = true
      · rw [allN_succ h1 h2] at h
        cases h
      · simpa using h2
    · obtain ⟨m, h2, h3, h4⟩ := first_no (by simpa using h1 : allN k p = false)
      exact ⟨m, by omega, h3, h4⟩
/-- What is wrong with the parts from one on. -/
def pfE (ps : List ByteArray) (k : Nat) : Int := if k < ps.length then (if pathB (ps.getD k ⟨#[]⟩) = true then (if inK ps k (ps.getD k ⟨#[]⟩) = true then 6 else pfE ps (k + 1)) else 3) else 0
  termination_by ps.length - k
theorem pfE_end {ps : List ByteArray} {k : Nat} (h : ¬ k < ps.length) : pfE ps k = 0 := by rw [pfE, if_neg h]
theorem pfE_path {ps : List ByteArray} {k : Nat} (h : k < ps.length) (h2 : ¬ pathB (ps.getD k ⟨#[]⟩) = true) : pfE ps k = 3 := by rw [pfE, if_pos h, if_neg h2]
theorem pfE_dup {ps : List ByteArray} {k : Nat} (h : k < ps.length) (h2 : pathB (ps.getD k ⟨#[]⟩) = true) (h3 : inK ps k (ps.getD k ⟨#[]⟩) = true) : pfE ps k = 6 := by rw [pfE, if_pos h, if_pos h2, if_pos h3]
theorem pfE_next {ps : List ByteArray} {k : Nat} (h : k < ps.length) (h2 : pathB (ps.getD k ⟨#[]⟩) = true) (h3 : ¬ inK ps k (ps.getD k ⟨#[]⟩) = true) : pfE ps k = pfE ps (k + 1) := by rw [pfE, if_pos h, if_pos h2, if_neg h3]
theorem pfE_all (ps : List ByteArray) : ∀ (n k : Nat), ps.length - k < n → pfE ps k = 0 → ∀ i, k ≤ i → i < ps.length → pathB (ps.getD i ⟨#[]⟩) = true
  | 0, k, hn, _ => by omega
  | n + 1, k, hn, h => fun i hi hl => by
    have hk : k < ps.length := by omega
    by_cases h2 : pathB (ps.getD k ⟨#[]⟩) = true
    · by_cases h3 : inK ps k (ps.getD k ⟨#[]⟩) = true
      · rw [pfE_dup hk h2 h3] at h
        omega
      · rcases Nat.lt_or_ge k i with h4 | h4
        · rw [pfE_next hk h2 h3] at h
          exact pfE_all ps n (k + 1) (by omega) h i h4 hl
        · obtain rfl : i = k := by omega
          exact h2
    · rw [pfE_path hk h2] at h
      omega
theorem path_size {s : ByteArray} (h : pathB s = true) : s.size ≤ 200 := by
  rcases Nat.lt_or_ge 200 s.size with h1 | h1
  · rw [path_long (by omega)] at h
    cases h
  · exact h1
def line (ps : List ByteArray) (es : List Int) (k : Nat) : ByteArray := ps.getD k ⟨#[]⟩ ++ ⟨#[32]⟩ ++ bs (b32 (es.getD k 0 - pv es k)) ++ ⟨#[10]⟩
def mtxt (ps : List ByteArray) (es : List Int) : Nat → ByteArray
  | 0 => ⟨#[]⟩
  | k + 1 => mtxt ps es k ++ line ps es k
theorem line_size {ps : List ByteArray} {es : List Int} {k : Nat} (h : pathB (ps.getD k ⟨#[]⟩) = true) : (line ps es k).size ≤ 206 := by
  have h1 := path_size h
  have h2 := b32_len (es.getD k 0 - pv es k)
  unfold line
  rw [ByteArray.size_append, ByteArray.size_append, ByteArray.size_append, bs_size]
  have c1 : (⟨#[32]⟩ : ByteArray).size = 1 := rfl
  have c2 : (⟨#[10]⟩ : ByteArray).size = 1 := rfl
  omega
theorem mtxt_size {ps : List ByteArray} {es : List Int} : ∀ {k : Nat}, (∀ i, i < k → pathB (ps.getD i ⟨#[]⟩) = true) → (mtxt ps es k).size ≤ 206 * k
  | 0, _ => Nat.le_refl _
  | k + 1, h => by
    have h1 := mtxt_size (k := k) (ps := ps) (es := es) fun i hi => h i (by omega)
    have h2 := line_size (es := es) (h k (by omega))
    show (mtxt ps es k ++ line ps es k).size ≤ _
    rw [ByteArray.size_append]
    omega
structure Res where
  s : ByteArray
  e : Int
def encO (r : Res) : DD := .tup [dS r.s, i64 r.e]
def errR (e : Int) : Res := ⟨⟨#[]⟩, e⟩
def mapR (b : ByteArray) (ps : List ByteArray) (es : List Int) : Res :=
  if ¬ bunE b ps es = 0 then errR (bunE b ps es) else if ¬ pfE ps 0 = 0 then errR (pfE ps 0) else ⟨mtxt ps es ps.length, 0⟩
def encB (b : ByteArray) (ps : List ByteArray) (es : List Int) : DD := .agg [dS b, encStrs ps, .sl 1 8 es.length (fun i _ => i64 (es.getD i 0))]
section
variable (E : Env)
set_option maxRecDepth 100000
end
end Go.Proofs.YtiiohopjkepkgaaGreatDoor.mp32
