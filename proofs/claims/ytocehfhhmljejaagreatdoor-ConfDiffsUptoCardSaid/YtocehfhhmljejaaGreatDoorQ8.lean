/-
  Rows of values, and rows with one more behind.
-/
import Derived.Test.YtocehfhhmljejaaGreatDoorQ6
namespace Go.Proofs.YtocehfhhmljejaaGreatDoor
open Go.RowKit
set_option linter.unusedVariables false
set_option linter.unusedSimpArgs false
theorem row_one {κ : Type} {X : Cx κ} {k sz : Nat} {f g : Nat → Nat → D κ} {cs : List (D κ)} (h0 : ∀ i j, i < k → j < sz → Dle X (g i j) (f i j)) (h1 : ∀ j, j < sz → Dle X (cs.getD j .opq) (f k j)) (i j : Nat) (hi : i < k + 1) (hj : j < sz) :
    Dle X (if i < k then g i j else cs.getD ((i - k + 0) * sz + j) .opq) (f i j) := by
  rcases Nat.lt_or_ge i k with h | h
  · rw [if_pos h]; exact h0 i j h hj
  · obtain rfl : i = k := by omega
    rw [if_neg (by omega)]
    simpa using h1 j hj
section
variable (E : Env)
theorem cells_le (v : Vu) (j : Nat) (hj : j < 6) : Dle (cx Tryz.prog mixed tyT_ok E) (([.v (.int .i64 v.kind), .v (.bool v.b), .v (.int .i64 v.i), .v (.string v.text), .rc (.vals v.items), encStrs v.keys] : List DD).getD j .opq) (v.cell j) := by
  match j, hj with
  | 0, _ => exact Dle.refl _ _
  | 1, _ => exact Dle.refl _ _
  | 2, _ => exact Dle.refl _ _
  | 3, _ => exact Dle.refl _ _
  | 4, _ => exact Dle.refl _ _
  | 5, _ => exact Dle.refl _ _
theorem row_val (f : Nat → Vu) (k i j : Nat) (hi : i < k + 1) (hj : j < 6) : Dle (cx Tryz.prog mixed tyT_ok E) (if i < k then (f i).cell j else (encV (f k)).cells.getD ((i - k + 0) * 6 + j) .opq) ((f i).cell j) :=
  row_one (X := (cx Tryz.prog mixed tyT_ok E)) (f := fun i j => (f i).cell j) (g := fun i j => (f i).cell j) (fun _ _ _ _ => Dle.refl _ _) (fun j hj => cells_le E (f k) j hj) i j hi hj
end
end Go.Proofs.YtocehfhhmljejaaGreatDoor
