/-
  Rows of ints, images and cuts as arguments.
-/
import Derived.Test.YtagggnjcpjodjaaP
import Derived.Test.YtagggnjcpjodjaaI2
namespace Go.Proofs.Ytagggnjcpjodjaa
open Go.RowKit
set_option linter.unusedVariables false
namespace img
section
variable (E : Env)
theorem ints_of : ∀ (l : List (List DD × Nat)), (∀ x ∈ l, (∃ k, In64 k ∧ x.1 = [.v (.int .i64 k)] ∧ x.2 = 0) ∧ x.1.length = 1) → ∃ vs : List Int, vs.length = l.length ∧ (∀ i, i < l.length → (l.getD i ([], 0)).1 = [i64 (vs.getD i 0)]) ∧ ∀ k ∈ vs, In64 k
  | [], _ => ⟨[], rfl, fun i hi => by simp at hi, fun k hk => by cases hk⟩
  | x :: l, h => by
    obtain ⟨vs, h2, h3, h4⟩ := ints_of l (fun y hy => h y (List.mem_cons_of_mem _ hy))
    obtain ⟨⟨k, h6, h7, _⟩, _⟩ := h x List.mem_cons_self
    refine ⟨k :: vs, by simp [h2], fun i hi => ?_, fun q hq => ?_⟩
    · match i, hi with
      | 0, _ => exact h7
      | i + 1, hi => exact h3 i (by simpa using hi)
    · rcases List.mem_cons.1 hq with rfl | hq
      · exact h6
      · exact h4 q hq
theorem opn_ints (N : Nat) : Opn (cx Try.prog mixed tyT_ok E) N 22 (fun ds n => ∃ l : List Int, ds = [.sl 1 8 l.length (fun i _ => i64 (l.getD i 0))] ∧ l.length ≤ 100000000000000 ∧ ∀ k ∈ l, In64 k) := by
  refine Opn.le (Opn.mono (opn_slice (X := (cx Try.prog mixed tyT_ok E)) (N := N) Try.underlying22 (by kernel_rfl) (opn_int (X := (cx Try.prog mixed tyT_ok E)) Try.underlying3)) ?_) (Nat.le_succ _)
  rintro ds n ⟨l, hl, hb, rfl, rfl⟩
  obtain ⟨vs, h2, h3, h4⟩ := ints_of l hl
  have hb2 : l.length * 8 ≤ 140737488351232 := hb
  refine ⟨_, _, ⟨vs, rfl, by omega, h4⟩, Nat.le_refl _, ⟨?_, trivial⟩⟩
  refine Dle.sl (X := (cx Try.prog mixed tyT_ok E)) (show l.length = vs.length from h2.symm) (fun i j hi hj => Dle.of_eq ?_)
  have hj : j < 1 := hj
  obtain rfl : j = 0 := by omega
  rw [h3 i hi]
  rfl
theorem opn_image (N : Nat) : Opn (cx Try.prog mixed tyT_ok E) N 24 (fun ds n => ∃ (w h : Int) (lv : List Int), ds = (encImg w h lv).cells ∧ lv.length ≤ 100000000000000 ∧ In64 w ∧ In64 h) := by
  refine Opn.le (Opn.mono (opn_struct (X := (cx Try.prog mixed tyT_ok E)) (N := N) Try.underlying24 (by kernel_rfl) (by kernel_rfl) (by kernel_rfl) (Rs := [_, _, _])
    ⟨opn_int (X := (cx Try.prog mixed tyT_ok E)) Try.underlying3, opn_int (X := (cx Try.prog mixed tyT_ok E)) Try.underlying3, opn_ints E N, trivial⟩) ?_) (Nat.le_succ _)
  rintro ds n ⟨_, _, _, _, ⟨w, hw, rfl, rfl⟩, ⟨_, _, _, _, ⟨h, hh, rfl, rfl⟩, ⟨_, _, _, _, ⟨lv, rfl, hl, _⟩, ⟨rfl, rfl⟩, rfl, rfl⟩, rfl, rfl⟩, rfl, rfl⟩
  exact ⟨_, _, ⟨w, h, lv, rfl, hl, hw, hh⟩, Nat.le_refl _, ⟨Dle.refl _ _, Dle.refl _ _, Dle.refl _ _, trivial⟩⟩
def encCut (X Y W H TW TH : Int) : DD := .agg [i64 X, i64 Y, i64 W, i64 H, i64 TW, i64 TH]
theorem opn_cut (N : Nat) : Opn (cx Try.prog mixed tyT_ok E) N 26 (fun ds n => ∃ X Y W H TW TH : Int, ds = (encCut X Y W H TW TH).cells) := by
  refine Opn.le (Opn.mono (opn_struct (X := (cx Try.prog mixed tyT_ok E)) (N := N) Try.underlying26 (by kernel_rfl) (by kernel_rfl) (by kernel_rfl) (Rs := [_, _, _, _, _, _])
    ⟨opn_int (X := (cx Try.prog mixed tyT_ok E)) Try.underlying3, opn_int (X := (cx Try.prog mixed tyT_ok E)) Try.underlying3, opn_int (X := (cx Try.prog mixed tyT_ok E)) Try.underlying3, opn_int (X := (cx Try.prog mixed tyT_ok E)) Try.underlying3, opn_int (X := (cx Try.prog mixed tyT_ok E)) Try.underlying3, opn_int (X := (cx Try.prog mixed tyT_ok E)) Try.underlying3, trivial⟩) ?_) (Nat.le_succ _)
  rintro ds n ⟨_, _, _, _, ⟨a, _, rfl, rfl⟩, ⟨_, _, _, _, ⟨b, _, rfl, rfl⟩, ⟨_, _, _, _, ⟨c, _, rfl, rfl⟩, ⟨_, _, _, _, ⟨d, _, rfl, rfl⟩, ⟨_, _, _, _, ⟨e, _, rfl, rfl⟩, ⟨_, _, _, _, ⟨f, _, rfl, rfl⟩, ⟨rfl, rfl⟩, rfl, rfl⟩, rfl, rfl⟩, rfl, rfl⟩, rfl, rfl⟩, rfl, rfl⟩, rfl, rfl⟩
  exact ⟨_, _, ⟨a, b, c, d, e, f, rfl⟩, Nat.le_refl _, ⟨Dle.refl _ _, Dle.refl _ _, Dle.refl _ _, Dle.refl _ _, Dle.refl _ _, Dle.refl _ _, trivial⟩⟩
end
end img
end Go.Proofs.Ytagggnjcpjodjaa
