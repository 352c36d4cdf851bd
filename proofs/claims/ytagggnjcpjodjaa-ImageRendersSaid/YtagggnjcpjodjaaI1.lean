/-
  Images drawn smaller: the parts' values in order.
-/
import Derived.Test.YtagggnjcpjodjaaI0
namespace Go.Proofs.Ytagggnjcpjodjaa
open Go.RowKit
set_option linter.unusedVariables false
set_option linter.unusedSimpArgs false
namespace img
theorem rowS_zero {W TW H TH : Int} {x y : Nat} {lv : Nat → Nat → Int} {v k : Nat} (h : ov H TH y v = 0) : rowS W TW H TH x y lv v k = 0 := by
  unfold rowS
  refine sumN_zero fun u _ => ?_
  rw [h, Int.zero_mul, Int.zero_mul]
theorem rowS_none {W TW H TH : Int} {x y : Nat} {lv : Nat → Nat → Int} {v k : Nat} (h : ∀ u, u < k → ov W TW x u = 0) : rowS W TW H TH x y lv v k = 0 := by
  unfold rowS
  refine sumN_zero fun u hu => ?_
  rw [h u hu, Int.mul_zero, Int.zero_mul]
theorem rowS_rest {W TW H TH : Int} {x y : Nat} {lv : Nat → Nat → Int} {v a b : Nat} (hab : a ≤ b) (h : ∀ u, a ≤ u → u < b → ov W TW x u = 0) : rowS W TW H TH x y lv v b = rowS W TW H TH x y lv v a := by
  unfold rowS
  refine sumN_rest hab fun u h1 h2 => ?_
  rw [h u h1 h2, Int.mul_zero, Int.zero_mul]
theorem allS_none {W TW H TH : Int} {x y : Nat} {lv : Nat → Nat → Int} {w k : Nat} (h : ∀ v, v < k → ov H TH y v = 0) : allS W TW H TH x y lv w k = 0 := by
  unfold allS
  exact sumN_zero fun v hv => rowS_zero (h v hv)
theorem allS_rest {W TW H TH : Int} {x y : Nat} {lv : Nat → Nat → Int} {w a b : Nat} (hab : a ≤ b) (h : ∀ v, a ≤ v → v < b → ov H TH y v = 0) : allS W TW H TH x y lv w b = allS W TW H TH x y lv w a := by
  unfold allS
  exact sumN_rest hab fun v h1 h2 => rowS_zero (h v h1 h2)
theorem ov_sym (n t : Int) (i k : Nat) : max 0 (min (((k : Int) + 1) * t) (((i : Int) + 1) * n) - max ((k : Int) * t) ((i : Int) * n)) = ov n t i k := by
  unfold ov
  omega
/-- The level under part v, u of the cut. -/
def lvAt (lv : List Int) (X Y iw : Nat) (v u : Nat) : Int := lv.getD ((((Y : Int) + v) * iw + X + u).toNat) 0
/-- A new part's value; the first n of them. -/
def val (lv : List Int) (X Y iw W H TW TH y x : Nat) : Int := (2 * allS W TW H TH x y (lvAt lv X Y iw) W H + (W : Int) * H) / (2 * ((W : Int) * H))
@[irreducible] def outL (lv : List Int) (X Y iw W H TW TH n : Nat) : List Int := (List.range n).map fun q => val lv X Y iw W H TW TH (q / TW) (q % TW)
theorem outL_len (lv : List Int) (X Y iw W H TW TH n : Nat) : (outL lv X Y iw W H TW TH n).length = n := by simp [outL]
theorem outL_next {lv : List Int} {X Y iw W H TW TH y x : Nat} (hx : x < TW) : outL lv X Y iw W H TW TH (y * TW + x + 1) = outL lv X Y iw W H TW TH (y * TW + x) ++ [val lv X Y iw W H TW TH y x] := by
  unfold outL
  rw [List.range_succ, List.map_append]
  have h1 : (y * TW + x) / TW = y := by
    rw [Nat.mul_comm, Nat.mul_add_div (by omega), Nat.div_eq_of_lt hx, Nat.add_zero]
  have h2 : (y * TW + x) % TW = x := by
    rw [Nat.mul_comm, Nat.mul_add_mod, Nat.mod_eq_of_lt hx]
  simp only [List.map_cons, List.map_nil, h1, h2]
/-- Whether a cut lies within an image. -/
def cutOk (iw ih X Y W H TW TH : Int) : Prop := 0 ≤ X ∧ 0 ≤ Y ∧ 1 ≤ W ∧ 1 ≤ H ∧ W ≤ iw ∧ X ≤ iw - W ∧ H ≤ ih ∧ Y ≤ ih - H ∧ 1 ≤ TW ∧ TW ≤ W ∧ 1 ≤ TH ∧ TH ≤ H
instance (iw ih X Y W H TW TH : Int) : Decidable (cutOk iw ih X Y W H TW TH) := by unfold cutOk; infer_instance
theorem prod_le {a b A B : Nat} (ha : a ≤ A) (hb : b ≤ B) : (0 : Int) ≤ (a : Int) * (b : Int) ∧ (a : Int) * (b : Int) ≤ ((A * B : Nat) : Int) := by
  have h : a * b ≤ A * B := Nat.mul_le_mul ha hb
  have e : ((a * b : Nat) : Int) = (a : Int) * (b : Int) := by push_cast; rfl
  omega
/-- The place of a level. -/
theorem lv_place {X Y iw ih W H v u : Nat} (h1 : X + W ≤ iw) (h2 : Y + H ≤ ih) (hv : v < H) (hu : u < W) : (0 : Int) ≤ ((Y : Int) + v) * iw ∧ ((Y : Int) + v) * iw + X + u < ((ih * iw : Nat) : Int) := by
  have h3 : (Y + v + 1) * iw ≤ ih * iw := Nat.mul_le_mul_right _ (by omega)
  rw [Nat.succ_mul] at h3
  have e : (((Y + v) * iw : Nat) : Int) = ((Y : Int) + v) * iw := by push_cast; rfl
  omega
theorem ov_prod {H TH W TW : Int} {y v x u : Nat} (hH : 0 ≤ H) (hH2 : H ≤ 64) (hW : 0 ≤ W) (hW2 : W ≤ 64) : 0 ≤ ov H TH y v ∧ ov H TH y v ≤ 64 ∧ 0 ≤ ov W TW x u ∧ ov W TW x u ≤ 64 ∧ 0 ≤ ov H TH y v * ov W TW x u ∧ ov H TH y v * ov W TW x u ≤ 4096 := by
  have a1 := ov_pos (n := H) (t := TH) (i := y) (k := v)
  have a2 := ov_le (n := H) (t := TH) (i := y) (k := v) hH
  have b1 := ov_pos (n := W) (t := TW) (i := x) (k := u)
  have b2 := ov_le (n := W) (t := TW) (i := x) (k := u) hW
  have c2 : ov H TH y v * ov W TW x u ≤ 64 * 64 := Int.mul_le_mul (by omega) (by omega) b1 (by omega)
  exact ⟨a1, by omega, b1, by omega, Int.mul_nonneg a1 b1, by omega⟩
theorem lv_prod {p l : Int} (h1 : 0 ≤ p) (h2 : p ≤ 4096) (h3 : 0 ≤ l) (h4 : l ≤ 15) : 0 ≤ p * l ∧ p * l ≤ 61440 := by
  have := Int.mul_le_mul h2 h4 h3 (by omega)
  exact ⟨Int.mul_nonneg h1 h3, by omega⟩
theorem rowS_0 (W TW H TH : Int) (x y : Nat) (lv : Nat → Nat → Int) (v : Nat) : rowS W TW H TH x y lv v 0 = 0 := by unfold rowS; rfl
theorem rowS_s (W TW H TH : Int) (x y : Nat) (lv : Nat → Nat → Int) (v k : Nat) : rowS W TW H TH x y lv v (k + 1) = rowS W TW H TH x y lv v k + ov H TH y v * ov W TW x k * lv v k := by unfold rowS; rfl
theorem allS_0 (W TW H TH : Int) (x y : Nat) (lv : Nat → Nat → Int) (w : Nat) : allS W TW H TH x y lv w 0 = 0 := by unfold allS; rfl
theorem allS_s (W TW H TH : Int) (x y : Nat) (lv : Nat → Nat → Int) (w k : Nat) : allS W TW H TH x y lv w (k + 1) = allS W TW H TH x y lv w k + rowS W TW H TH x y lv k w := by unfold allS; rfl
theorem areaR_0 (W TW H TH : Int) (x y v : Nat) : areaR W TW H TH x y v 0 = 0 := by unfold areaR; rfl
theorem areaR_s (W TW H TH : Int) (x y v k : Nat) : areaR W TW H TH x y v (k + 1) = areaR W TW H TH x y v k + ov W TW x k * ov H TH y v := by unfold areaR; rfl
theorem areaA_0 (W TW H TH : Int) (x y w : Nat) : areaA W TW H TH x y w 0 = 0 := by unfold areaA; rfl
theorem areaA_s (W TW H TH : Int) (x y w k : Nat) : areaA W TW H TH x y w (k + 1) = areaA W TW H TH x y w k + areaR W TW H TH x y k w := by unfold areaA; rfl
theorem outL_0 (lv : List Int) (X Y iw W H TW TH : Nat) : outL lv X Y iw W H TW TH 0 = [] := by unfold outL; rfl
end img
end Go.Proofs.Ytagggnjcpjodjaa
