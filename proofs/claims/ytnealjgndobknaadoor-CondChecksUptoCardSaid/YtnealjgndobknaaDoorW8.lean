/-
  What CondChecks may count on: MaxLen, the words.
-/
import Derived.Test.YtnealjgndobknaaDoorW7
import Derived.Test.YtnealjgndobknaaDoorW5
namespace Go.Proofs.YtnealjgndobknaaDoor
open Go.RowKit
set_option linter.unusedVariables false
set_option linter.unusedSimpArgs false
def wordsL : List (List UInt8) := [[97, 110, 100], [111, 114], [110, 111, 116], [104, 97, 115], [105, 110], [98, 101, 103, 105, 110, 115]]
/-- Memory holds MaxLen and the words. -/
def WG (b o c : Nat) (W : World) : Prop := ML W ∧ 6 ≤ c ∧ c ≤ maxLen ∧ WordsAt 0 wordsL b o c W
def wN (b : Nat) : Nat := 1 + 0 + b + 1
theorem WG.lt {b o c : Nat} {W : World} (h : WG b o c W) : 1 < W.heap.size ∧ 0 < W.heap.size ∧ b < W.heap.size := by
  obtain ⟨h1, _, _, h2, h3⟩ := h
  exact ⟨h1.lt, World.block_lt_of_cell? W ⟨_, 0, none⟩ h2, World.block_lt_of_cell? W ⟨b, o + 0, none⟩ (h3 0 _ rfl)⟩
/-- Blocks up to the highest of the three. -/
def wM (b : Nat) : Nat := max (max 1 0) b + 1
theorem WG.kp {b o c : Nat} {W W' : World} (h : WG b o c W) (hk : Kp (wM b) noS W W') : WG b o c W' := by
  obtain ⟨⟨m, h1⟩, h4, h5, h2, h3⟩ := h
  refine ⟨⟨m, (hk.cell (by unfold wM; omega) (fun h => h)).trans h1⟩, h4, h5, (hk.cell (by unfold wM; omega) (fun h => h)).trans h2, fun i l hi => (hk.cell (by unfold wM; omega) (fun h => h)).trans (h3 i l hi)⟩
def env0 (b o c : Nat) : Env := ⟨wM b, WG b o c, fun w h => by have := h.lt; unfold wM; omega, fun w w' h hk => h.kp hk, fun b' _ => b' = 0 ∨ b' = b, fun b' _ h => by unfold wM; omega, fun _ => .opq, fun _ _ _ => .opq⟩
theorem words_gv (b o c : Nat) (W : World) (h : WG b o c W) (g : Nat) : Rep view (fun b' _ => b' = 0 ∨ b' = b) W b0 (wordsGv g) (.pointer (some ⟨g, 0, none⟩)) := by
  obtain ⟨_, h4, h5, h2, h3⟩ := h
  unfold wordsGv
  cases hb : Nat.beq g 0
  · exact .opq
  · have hb := Nat.eq_of_beq_eq_true hb
    subst hb
    refine .ref (fun _ => .slice (some ⟨b, o, none⟩) wordsL.length c) (fun j hj => ?_) (fun j hj => ?_)
    · obtain rfl : j = 0 := by omega
      exact ⟨.inl rfl, h2, rfl⟩
    · refine .sl (fun i _ => .string (resWords.getD i ⟨#[]⟩)) h4 h5 (by decide) (fun i j hi hj => ?_) (fun i j hi hj => ?_)
      · obtain rfl : j = 0 := by omega
        refine ⟨.inr rfl, ?_, rfl⟩
        rw [Nat.mul_one, Nat.add_zero]
        have hi : i < 6 := hi
        match i, hi with
        | 0, _ => exact h3 0 _ rfl
        | 1, _ => exact h3 1 _ rfl
        | 2, _ => exact h3 2 _ rfl
        | 3, _ => exact h3 3 _ rfl
        | 4, _ => exact h3 4 _ rfl
        | 5, _ => exact h3 5 _ rfl
      · have hi : i < 6 := hi
        match i, hi with
        | 0, _ => exact .v (by decide)
        | 1, _ => exact .v (by decide)
        | 2, _ => exact .v (by decide)
        | 3, _ => exact .v (by decide)
        | 4, _ => exact .v (by decide)
        | 5, _ => exact .v (by decide)
end Go.Proofs.YtnealjgndobknaaDoor
