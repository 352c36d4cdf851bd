/-
  slices.Equal at slices of list.Part: two slices that read as the same list are equal.
-/
import Derived.Test.YtbfldfnmamdofaaRows
import Derived.Test.YtbfldfnmamdofaaL0
import Derived.Deep.QuietTactic
import Derived.BigQuiet
import Derived.WalkLawsBesides
namespace Go.Proofs.Ytbfldfnmamdofaa
open Go.RowKit

set_option maxHeartbeats 400000 in
theorem equalParts {α : Type} (f : α → List Value) (hf : ∀ x, ∃ p q r : Int, f x = [.int .i64 p, .int .i64 q, .int .i64 r]) (A A' : Option Addr) (n c c' : Nat) (l : List α) (w : World) (hn : n ≤ 1000000000) (hl : l.length = n)
    (h : Rd w 3 f A l) (h' : Rd w 3 f A' l) :
    Calls Try.prog 17 #[.slice A n c, .slice A' n c'] w fun e w' => e = .returned (.bool true) ∧ Below w.heap.size w w' := by
  have H := hide (And.intro (And.intro h h') hf); clear h h' hf
  go_enter Try.func17, Try.ntmps17
  go_wp2_with fail
  go_loopw [5, 13] (fun v5 v13 wr => ∃ (k d : Nat), k ≤ n ∧ v13 = .int .i64 k ∧ wr = w.drewN d) (fun v5 v13 _ => n - (intOf v13).toNat)
  case atStart => exact ⟨0, 0, by omega, rfl, rfl⟩
  case round =>
    obtain ⟨k, d, hk, rfl, rfl⟩ := hrel
    by_cases hlt : k < n
    · obtain ⟨⟨h, h'⟩, hf⟩ := H.out
      obtain ⟨b, o, x, rfl, hx, _, h1⟩ := h.at_ (k := k) (by omega)
      obtain ⟨b', o', x', rfl, hx', _, h1'⟩ := h'.at_ (k := k) (by omega)
      obtain rfl : x = x' := by rw [hx] at hx'; injection hx'
      obtain ⟨p, q, r, hp⟩ := hf x
      rw [hp] at h1 h1'
      have a0 : w.cell? ⟨b, o + k * 3, none⟩ = some (.int .i64 p) := h1 0 _ rfl
      have a1 : w.cell? ⟨b, o + k * 3 + 1, none⟩ = some (.int .i64 q) := h1 1 _ rfl
      have a2 : w.cell? ⟨b, o + k * 3 + 2, none⟩ = some (.int .i64 r) := h1 2 _ rfl
      have b0 : w.cell? ⟨b', o' + k * 3, none⟩ = some (.int .i64 p) := h1' 0 _ rfl
      have b1 : w.cell? ⟨b', o' + k * 3 + 1, none⟩ = some (.int .i64 q) := h1' 1 _ rfl
      have b2 : w.cell? ⟨b', o' + k * 3 + 2, none⟩ = some (.int .i64 r) := h1' 2 _ rfl
      have hki : (k : Int) < n := by omega
      clear hx hx' h1 h1' h h' hf hp H
      go_wp2_with fail
      go_quiet (fail)
      go_wp2_with fail
      go_roundw
      case rel => exact ⟨k + 1, _, by omega, by go_num, rfl⟩
      case measure => simp [intOf]; omega
    · go_wp2
      go_ret
      exact ⟨rfl, below_drewN (Below.refl _ _) _⟩
end Go.Proofs.Ytbfldfnmamdofaa
