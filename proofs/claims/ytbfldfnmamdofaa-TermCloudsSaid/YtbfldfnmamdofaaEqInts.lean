/-
  slices.Equal at []int: it says whether the two slices read as the same list.
-/
import Derived.Test.YtbfldfnmamdofaaRows
import Derived.Test.YtbfldfnmamdofaaL2
import Derived.Deep.QuietTactic
import Derived.BigQuiet
import Derived.WalkLawsBesides
namespace Go.Proofs.Ytbfldfnmamdofaa
open Go.RowKit

theorem intTy : SlTy Try.prog 30 3 (.int .i64 0) 1 8 :=
  ⟨Try.underlying30, info_parts (by kernel_rfl), rfl, by decide, by decide⟩

theorem ne_of_get {α : Type} {l l' : List α} {k : Nat} (h : l[k]? ≠ l'[k]?) : l ≠ l' := fun e => h (by rw [e])

def EqRel (n : Nat) (l l' : List Int) (w : World) (_ v13 : Value) (wr : World) : Prop :=
  ∃ (k d : Nat), k ≤ n ∧ v13 = .int .i64 k ∧ wr = w.drewN d ∧ l.take k = l'.take k

set_option maxHeartbeats 400000 in
theorem equalInts (A A' : Option Addr) (n n' c c' : Nat) (l l' : List Int) (w : World) (hn : n ≤ 1000000000000000000) (hn' : n' ≤ 1000000000000000000) (hl : l.length = n) (hl' : l'.length = n')
    (h : Rd w 1 icell A l) (h' : Rd w 1 icell A' l') :
    Calls Try.prog 19 #[.slice A n c, .slice A' n' c'] w fun e w' => e = .returned (.bool (decide (l = l'))) ∧ ∃ d, w' = w.drewN d := by
  by_cases hnn : n = n'
  · subst hnn
    have H := hide (And.intro h h'); clear h h'
    go_enter Try.func19, Try.ntmps19
    go_wp2_with fail
    go_loopw [5, 13] (EqRel n l l' w) (fun v5 v13 _ => n - (intOf v13).toNat)
    case atStart => exact ⟨0, 0, by omega, rfl, rfl, by simp⟩
    case round =>
      obtain ⟨k, d, hk, rfl, rfl, ht⟩ := hrel
      have HT := hide ht; clear ht
      by_cases hlt : k < n
      · obtain ⟨h, h'⟩ := H.out
        obtain ⟨b, o, x, rfl, hx, _, h1⟩ := h.at_ (k := k) (by omega)
        obtain ⟨b', o', x', rfl, hx', _, h1'⟩ := h'.at_ (k := k) (by omega)
        have a0 : w.cell? ⟨b, o + k * 1, none⟩ = some (.int .i64 x) := h1 0 _ rfl
        have b0 : w.cell? ⟨b', o' + k * 1, none⟩ = some (.int .i64 x') := h1' 0 _ rfl
        rw [Nat.mul_one] at a0 b0
        have HX := hide (And.intro hx hx')
        have hki : (k : Int) < n := by omega
        clear hx hx' h1 h1' h h'
        by_cases he : x = x'
        · subst he
          go_wp2_with fail
          go_quiet (fail)
          go_wp2_with fail
          go_roundw
          case rel => 
            refine ⟨k + 1, _, by omega, by go_num, rfl, ?_⟩
            rw [List.take_add_one, List.take_add_one, HX.out.1, HX.out.2, HT.out]
          case measure => simp [intOf]; omega
        · have he' : (x == x') = false := by simpa using he
          go_wp2_with fail
          go_quiet (fail)
          go_wp2
          go_ret
          have hll : l ≠ l' := ne_of_get (k := k) (by rw [HX.out.1, HX.out.2]; simpa using he)
          exact ⟨by rw [decide_eq_false hll]; rfl, d + nq, World.drewN_drewN _ _ _⟩
      · go_wp2
        go_ret
        have hll : l = l' := by
          have h1 := HT.out
          rwa [List.take_of_length_le (by omega), List.take_of_length_le (by omega)] at h1
        exact ⟨by rw [decide_eq_true hll]; rfl, _, rfl⟩
  · have hll : l ≠ l' := by
      intro e; subst e; omega
    have hll' := hide hll
    have hne : ((n : Int) == (n' : Int)) = false := by simpa using fun e => hnn (by omega)
    clear hll hnn h h'
    go_enter Try.func19, Try.ntmps19
    go_wp2
    go_ret
    exact ⟨by rw [decide_eq_false hll'.out]; rfl, 0, rfl⟩
end Go.Proofs.Ytbfldfnmamdofaa
