/-
  Images drawn smaller: plain law (how parts of a side overlap).
-/
import Derived.Test.YtagggnjcpjodjaaN17
namespace Go.Proofs.Ytagggnjcpjodjaa
open Go.RowKit
set_option linter.unusedVariables false
set_option linter.unusedSimpArgs false
namespace img
/-- A sum of the first k. -/
def sumN (f : Nat → Int) : Nat → Int
  | 0 => 0
  | k + 1 => sumN f k + f k
theorem sumN_zero {f : Nat → Int} : ∀ {a : Nat}, (∀ k, k < a → f k = 0) → sumN f a = 0
  | 0, _ => rfl
  | a + 1, h => by rw [sumN, sumN_zero (fun k hk => h k (by omega)), h a (by omega)]; rfl
theorem sumN_rest {f : Nat → Int} {a : Nat} : ∀ {b : Nat}, a ≤ b → (∀ k, a ≤ k → k < b → f k = 0) → sumN f b = sumN f a
  | 0, h, _ => by obtain rfl : a = 0 := by omega
                  rfl
  | b + 1, h, hf => by
    rcases Nat.lt_or_ge b a with h1 | h1
    · obtain rfl : a = b + 1 := by omega
      rfl
    · rw [sumN, sumN_rest h1 (fun k h2 h3 => hf k h2 (by omega)), hf b h1 (by omega), Int.add_zero]
theorem sumN_congr {f g : Nat → Int} : ∀ {a : Nat}, (∀ k, k < a → f k = g k) → sumN f a = sumN g a
  | 0, _ => rfl
  | a + 1, h => by rw [sumN, sumN, sumN_congr (fun k hk => h k (by omega)), h a (by omega)]
theorem sumN_mul (c : Int) (f : Nat → Int) : ∀ a : Nat, sumN (fun k => c * f k) a = c * sumN f a
  | 0 => by simp [sumN]
  | a + 1 => by rw [sumN, sumN, sumN_mul c f a, Int.mul_add]
theorem sumN_bound {f : Nat → Int} {B : Int} : ∀ {a : Nat}, (∀ k, k < a → 0 ≤ f k ∧ f k ≤ B) → 0 ≤ sumN f a ∧ sumN f a ≤ a * B
  | 0, _ => by simp [sumN]
  | a + 1, h => by
    obtain ⟨h1, h2⟩ := sumN_bound (a := a) (fun k hk => h k (by omega))
    obtain ⟨h3, h4⟩ := h a (by omega)
    rw [sumN]
    have : ((a + 1 : Nat) : Int) * B = (a : Int) * B + B := by push_cast; rw [Int.add_mul, Int.one_mul]
    omega
/-- How much of the new part i the old part k covers. -/
@[irreducible] def ov (n t : Int) (i k : Nat) : Int := max 0 (min (((i : Int) + 1) * n) (((k : Int) + 1) * t) - max ((i : Int) * n) ((k : Int) * t))
theorem ov_pos {n t : Int} {i k : Nat} : 0 ≤ ov n t i k := by unfold ov; omega
theorem ov_le {n t : Int} {i k : Nat} (hn : 0 ≤ n) : ov n t i k ≤ n := by
  unfold ov
  have : ((i : Int) + 1) * n = (i : Int) * n + n := by rw [Int.add_mul, Int.one_mul]
  omega
theorem ov_before {n t : Int} {i k : Nat} (h : ((k : Int) + 1) * t ≤ (i : Int) * n) : ov n t i k = 0 := by unfold ov; omega
theorem ov_after {n t : Int} {i k : Nat} (h : ((i : Int) + 1) * n ≤ (k : Int) * t) : ov n t i k = 0 := by unfold ov; omega
/-- Old parts that end ahead of where the new one begins. -/
theorem ov_early {n t : Int} {i k : Nat} (ht : 0 < t) (h : (k : Int) < (i : Int) * n / t) : ov n t i k = 0 := by
  refine ov_before ?_
  have h1 : (k : Int) + 1 ≤ (i : Int) * n / t := by omega
  exact Int.le_trans (Int.mul_le_mul_of_nonneg_right h1 (by omega)) (Int.ediv_mul_le _ (by omega))
/-- Old parts that begin behind where the new one ends. -/
theorem ov_late {n t : Int} {i k j : Nat} (ht : 0 < t) (h : ((i : Int) + 1) * n ≤ (j : Int) * t) (hk : j ≤ k) : ov n t i k = 0 := by
  refine ov_after (Int.le_trans h ?_)
  exact Int.mul_le_mul_of_nonneg_right (by omega) (by omega)
theorem ov_sum {n t : Int} {i : Nat} (hn : 0 ≤ n) (ht : 0 < t) : ∀ k : Nat, sumN (ov n t i) k = max 0 (min (((i : Int) + 1) * n) ((k : Int) * t) - (i : Int) * n)
  | 0 => by
    have h1 : 0 ≤ (i : Int) * n := Int.mul_nonneg (by omega) hn
    have : ((0 : Nat) : Int) * t = 0 := by simp
    rw [this]
    unfold sumN
    omega
  | k + 1 => by
    rw [sumN, ov_sum hn ht k]
    unfold ov
    have h1 : (((k + 1 : Nat)) : Int) * t = (k : Int) * t + t := by push_cast; rw [Int.add_mul, Int.one_mul]
    have h2 : ((i : Int) + 1) * n = (i : Int) * n + n := by rw [Int.add_mul, Int.one_mul]
    have h3 : ((k : Int) + 1) * t = (k : Int) * t + t := by rw [Int.add_mul, Int.one_mul]
    rw [h1, h2, h3]
    omega
/-- The old parts cover the new one. -/
theorem ov_all {n t i : Nat} (ht : 0 < t) (hi : i < t) : sumN (ov n t i) n = n := by
  rw [ov_sum (by omega) (by omega)]
  have h1 : ((i : Int) + 1) * n ≤ (n : Int) * t := by
    rw [Int.mul_comm (n : Int)]
    exact Int.mul_le_mul_of_nonneg_right (by omega) (by omega)
  have h2 : ((i : Int) + 1) * n = (i : Int) * n + n := by rw [Int.add_mul, Int.one_mul]
  omega
/-- What part v, u of the cut gives to the new part y, x; the row v; all rows. -/
def pt (W TW x oy : Int) (lv : Nat → Int) : Nat → Int := fun u => oy * ov W TW x.toNat u * lv u
@[irreducible] def rowS (W TW H TH : Int) (x y : Nat) (lv : Nat → Nat → Int) (v : Nat) (k : Nat) : Int := sumN (fun u => ov H TH y v * ov W TW x u * lv v u) k
@[irreducible] def allS (W TW H TH : Int) (x y : Nat) (lv : Nat → Nat → Int) (w : Nat) (k : Nat) : Int := sumN (fun v => rowS W TW H TH x y lv v w) k
theorem rowS_bound {W TW H TH : Int} {x y : Nat} {lv : Nat → Nat → Int} {v k : Nat} (hW : 0 ≤ W) (hW2 : W ≤ 64) (hH : 0 ≤ H) (hH2 : H ≤ 64) (hk : k ≤ 64) (hlv : ∀ u, u < k → 0 ≤ lv v u ∧ lv v u ≤ 15) : 0 ≤ rowS W TW H TH x y lv v k ∧ rowS W TW H TH x y lv v k ≤ 3932160 := by
  obtain ⟨h1, h2⟩ := sumN_bound (f := fun u => ov H TH y v * ov W TW x u * lv v u) (B := 61440) (a := k) (fun u hu => by
    obtain ⟨h1, h2⟩ := hlv u hu
    have a1 := ov_pos (n := H) (t := TH) (i := y) (k := v)
    have a2 := ov_le (n := H) (t := TH) (i := y) (k := v) hH
    have b1 := ov_pos (n := W) (t := TW) (i := x) (k := u)
    have b2 := ov_le (n := W) (t := TW) (i := x) (k := u) hW
    have c1 := Int.mul_nonneg a1 b1
    have c2 : ov H TH y v * ov W TW x u ≤ 64 * 64 := Int.mul_le_mul (by omega) (by omega) b1 (by omega)
    exact ⟨Int.mul_nonneg c1 h1, Int.le_trans (Int.mul_le_mul c2 h2 h1 (by omega)) (by omega)⟩)
  unfold rowS
  omega
theorem allS_bound {W TW H TH : Int} {x y : Nat} {lv : Nat → Nat → Int} {w k : Nat} (hW : 0 ≤ W) (hW2 : W ≤ 64) (hH : 0 ≤ H) (hH2 : H ≤ 64) (hw : w ≤ 64) (hk : k ≤ 64) (hlv : ∀ v u, v < k → u < w → 0 ≤ lv v u ∧ lv v u ≤ 15) : 0 ≤ allS W TW H TH x y lv w k ∧ allS W TW H TH x y lv w k ≤ 251658240 := by
  obtain ⟨h1, h2⟩ := sumN_bound (f := fun v => rowS W TW H TH x y lv v w) (B := 3932160) (a := k) (fun v hv => rowS_bound hW hW2 hH hH2 hw (fun u hu => hlv v u hv hu))
  unfold allS
  omega
/-- The area of the new part, reckoned part by part. -/
@[irreducible] def areaR (W TW H TH : Int) (x y v k : Nat) : Int := sumN (fun u => ov W TW x u * ov H TH y v) k
theorem areaR_eq (W TW H TH : Int) (x y v k : Nat) : areaR W TW H TH x y v k = ov H TH y v * sumN (ov W TW x) k := by
  unfold areaR
  rw [← sumN_mul]
  exact sumN_congr fun u _ => Int.mul_comm _ _
@[irreducible] def areaA (W TW H TH : Int) (x y w k : Nat) : Int := sumN (fun v => areaR W TW H TH x y v w) k
theorem areaA_eq {W TW H TH x y : Nat} (h1 : 0 < TW) (h2 : x < TW) (h3 : 0 < TH) (h4 : y < TH) : areaA W TW H TH x y W H = (W : Int) * H := by
  unfold areaA
  rw [sumN_congr (g := fun v => (W : Int) * ov H TH y v) (fun v _ => by rw [areaR_eq, ov_all h1 h2, Int.mul_comm]), sumN_mul, ov_all h3 h4]
end img
end Go.Proofs.Ytagggnjcpjodjaa
