/-
  asset.CheckImage and the reference's ImageFault: what is wrong with an image.
-/
import Derived.Test.YtkldjnopapipfaaDoorByt
import Derived.BigQuiet
import Derived.Deep.QuietTactic
import Derived.WalkLawsBesides
namespace Go.Proofs.YtkldjnopapipfaaDoor.img
open Go.RowKit
set_option linter.unusedVariables false

def side (n : Int) : Prop := 1 ≤ n ∧ n ≤ 64
instance (n : Int) : Decidable (side n) := by unfold side; infer_instance
def lev (x : Int) : Bool := decide (0 ≤ x ∧ x ≤ 15)
/-- What is wrong with an image. -/
def imF (a b : Int) (n : Nat) (l : List Int) : Int :=
  if ¬ (side a ∧ side b) then 2 else if (n : Int) ≠ a * b then 1 else if l.all lev = true then 0 else 2
theorem mul_b {a b : Int} (ha : 1 ≤ a ∧ a ≤ 64) (hb : 1 ≤ b ∧ b ≤ 64) : 1 ≤ a * b ∧ a * b ≤ 4096 := by
  have h1 : a * 1 ≤ a * b := Int.mul_le_mul_of_nonneg_left hb.1 (by omega)
  have h2 : a * b ≤ 64 * b := Int.mul_le_mul_of_nonneg_right ha.2 (by omega)
  omega
theorem keept {w w' : World} {a : Addr} {v : Value} (hb : Below w.heap.size w w') (h : w.cell? a = some v) : w'.cell? a = some v :=
  (hb.cell (World.block_lt_of_cell? w a h)).trans h
theorem all_upto {α : Type} {f : α → Bool} {l : List α} {k : Nat} {x : α} (h : ∀ y ∈ l.take k, f y = true) (hx : l[k]? = some x) (hf : f x = true) : ∀ y ∈ l.take (k + 1), f y = true := by
  intro y hy
  rw [List.take_add_one, hx] at hy
  rcases List.mem_append.1 hy with hy | hy
  · exact h y hy
  · simp at hy
    rw [hy]
    exact hf
theorem all_full {α : Type} {f : α → Bool} {l : List α} {k : Nat} (h : ∀ y ∈ l.take k, f y = true) (hk : l.length ≤ k) : l.all f = true := by
  rw [List.take_of_length_le hk] at h
  exact List.all_eq_true.2 h
theorem all_not {α : Type} {f : α → Bool} {l : List α} {x : α} (hx : x ∈ l) (hf : f x = false) : l.all f = false := by
  rw [List.all_eq_false]
  exact ⟨x, hx, by simp [hf]⟩
def LevRel (l : List Int) (n : Nat) (v : Value) : Prop := ∃ k : Nat, k ≤ n ∧ v = .int .i64 k ∧ (∀ y ∈ l.take k, lev y = true)

set_option maxHeartbeats 2000000 in
set_option maxRecDepth 100000 in
theorem checkImage_any (a b : Int) (A : Option Addr) (n c : Nat) (l : List Int) (w : World) (hn : l.length = n) (hsl : SlOk A n c 8) (hr : Rd w 1 icell A l) :
    Calls Tryd.prog 6 #[.agg #[.int .i64 a, .int .i64 b, .slice A n c]] w fun e w' => e = .returned (.int .i64 (imF a b n l)) ∧ Below w.heap.size w w' := by
  have hnb : n ≤ 100000000000000 := by have := hsl.nc; have := hsl.cb; omega
  obtain ⟨R, hR⟩ : ∃ R, R = imF a b n l := ⟨_, rfl⟩
  rw [← hR]
  unfold imF at hR
  by_cases ha : side a
  · by_cases hb : side b
    · rw [if_neg (by simp [ha, hb])] at hR
      have hm := mul_b ha hb
      obtain ⟨a1, a2⟩ := ha
      obtain ⟨b1, b2⟩ := hb
      by_cases hnm : (n : Int) = a * b
      · rw [if_neg (by simp [hnm])] at hR
        have HR := hide hR
        clear hR
        have HT := hide (And.intro hr hn)
        have HN := hide hnm
        have hnm' : ((n : Int) == a * b) = true := by simpa using hnm
        have hnm2 : ((n : Int) != a * b) = false := by simpa using hnm
        have hn4 : n ≤ 4096 := by omega
        clear hr hn hnm
        go_enter Tryd.func6, Tryd.ntmps6
        go_wp2
        go_loop [27] (LevRel l n) (fun v => n - (intOf v).toNat)
        case atStart => exact ⟨0, by omega, rfl, fun y hy => by simp at hy⟩
        case round =>
          obtain ⟨k, hk, rfl, hall⟩ := hrel
          have HA := hide hall
          clear hall
          by_cases hlt : k < n
          · obtain ⟨bb, oo, x, rfl, hx, hxm, h1⟩ := HT.out.1.at_ (k := k) (by have := HT.out.2; omega)
            have hcell : w.cell? ⟨bb, oo + k, none⟩ = some (.int .i64 x) := by have := h1 0 _ rfl; simpa using this
            have HX := hide (fun h => all_upto (f := lev) HA.out hx h)
            have HXN := hide (fun h => all_not (f := lev) hxm h)
            have hki : (k : Int) < n := by omega
            clear h1 hx hxm
            have hbl : bb < w.heap.size := World.block_lt_of_cell? w ⟨bb, oo + k, none⟩ hcell
            rcases (by omega : x < 0 ∨ (0 ≤ x ∧ 15 < x) ∨ (0 ≤ x ∧ x ≤ 15)) with h0 | ⟨h0, h2⟩ | ⟨h0, h2⟩
            · go_wp2
              go_ret
              exact ⟨by rw [HR.out, if_neg (by rw [HXN.out (by simp [lev]; omega)]; simp)] <;> rfl, Below.alloc (Below.refl _ _) (Nat.le_refl _) _⟩
            · have h0' : ¬ x < 0 := by omega
              go_wp2
              go_ret
              exact ⟨by rw [HR.out, if_neg (by rw [HXN.out (by simp [lev]; omega)]; simp)] <;> rfl, Below.alloc (Below.refl _ _) (Nat.le_refl _) _⟩
            · have h0' : ¬ x < 0 := by omega
              have h2' : ¬ 15 < x := by omega
              go_wp2
              go_round
              case rel => exact ⟨k + 1, by omega, by go_num, HX.out (by simp [lev]; omega)⟩
              case measure => simp [intOf]; omega
          · have hfull := hide (all_full HA.out (by have := HT.out.2; omega))
            go_wp2
            go_ret
            exact ⟨by rw [HR.out, if_pos hfull.out] <;> rfl, Below.alloc (Below.refl _ _) (Nat.le_refl _) _⟩
      · rw [if_pos hnm] at hR
        have HR := hide hR
        clear hR
        have hnm' : ((n : Int) == a * b) = false := by simpa using hnm
        have hnm2 : ((n : Int) != a * b) = true := by simpa using hnm
        clear hnm hr hn
        go_enter Tryd.func6, Tryd.ntmps6
        go_wp2
        go_ret
        exact ⟨by rw [HR.out] <;> rfl, Below.alloc (Below.refl _ _) (Nat.le_refl _) _⟩
    · rw [if_pos (by simp [hb])] at hR
      have HR := hide hR
      obtain ⟨a1, a2⟩ := ha
      clear hR
      rcases (by unfold side at hb; omega : b < 1 ∨ (1 ≤ b ∧ 64 < b)) with h0 | ⟨h0, h1⟩
      · have h0' : ¬ 1 ≤ b := by omega
        clear hb hr hn
        go_enter Tryd.func6, Tryd.ntmps6
        go_wp2
        go_ret
        exact ⟨by rw [HR.out] <;> rfl, Below.alloc (Below.refl _ _) (Nat.le_refl _) _⟩
      · have h1' : ¬ b ≤ 64 := by omega
        clear hb hr hn
        go_enter Tryd.func6, Tryd.ntmps6
        go_wp2
        go_ret
        exact ⟨by rw [HR.out] <;> rfl, Below.alloc (Below.refl _ _) (Nat.le_refl _) _⟩
  · rw [if_pos (by simp [ha])] at hR
    have HR := hide hR
    clear hR
    rcases (by unfold side at ha; omega : a < 1 ∨ (1 ≤ a ∧ 64 < a)) with h0 | ⟨h0, h1⟩
    · have h0' : ¬ 1 ≤ a := by omega
      clear ha hr hn
      go_enter Tryd.func6, Tryd.ntmps6
      go_wp2
      go_ret
      exact ⟨by rw [HR.out] <;> rfl, Below.alloc (Below.refl _ _) (Nat.le_refl _) _⟩
    · have h1' : ¬ a ≤ 64 := by omega
      clear ha hr hn
      go_enter Tryd.func6, Tryd.ntmps6
      go_wp2
      go_ret
      exact ⟨by rw [HR.out] <;> rfl, Below.alloc (Below.refl _ _) (Nat.le_refl _) _⟩

set_option maxHeartbeats 2000000 in
set_option maxRecDepth 100000 in
theorem imageFault_any (a b : Int) (A : Option Addr) (n c : Nat) (l : List Int) (w : World) (hn : l.length = n) (hsl : SlOk A n c 8) (hr : Rd w 1 icell A l) :
    Calls Tryd.prog 7 #[.agg #[.int .i64 a, .int .i64 b, .slice A n c]] w fun e w' => e = .returned (.int .i64 (imF a b n l)) ∧ Below w.heap.size w w' := by
  have hnb : n ≤ 100000000000000 := by have := hsl.nc; have := hsl.cb; omega
  obtain ⟨R, hR⟩ : ∃ R, R = imF a b n l := ⟨_, rfl⟩
  rw [← hR]
  unfold imF at hR
  by_cases ha : side a
  · by_cases hb : side b
    · rw [if_neg (by simp [ha, hb])] at hR
      have hm := mul_b ha hb
      obtain ⟨a1, a2⟩ := ha
      obtain ⟨b1, b2⟩ := hb
      by_cases hnm : (n : Int) = a * b
      · rw [if_neg (by simp [hnm])] at hR
        have HR := hide hR
        clear hR
        have HT := hide (And.intro hr hn)
        have HN := hide hnm
        have hnm' : ((n : Int) == a * b) = true := by simpa using hnm
        have hnm2 : ((n : Int) != a * b) = false := by simpa using hnm
        have hn4 : n ≤ 4096 := by omega
        clear hr hn hnm
        go_enter Tryd.func7, Tryd.ntmps7
        go_wp2
        go_loop [27] (LevRel l n) (fun v => n - (intOf v).toNat)
        case atStart => exact ⟨0, by omega, rfl, fun y hy => by simp at hy⟩
        case round =>
          obtain ⟨k, hk, rfl, hall⟩ := hrel
          have HA := hide hall
          clear hall
          by_cases hlt : k < n
          · obtain ⟨bb, oo, x, rfl, hx, hxm, h1⟩ := HT.out.1.at_ (k := k) (by have := HT.out.2; omega)
            have hcell : w.cell? ⟨bb, oo + k, none⟩ = some (.int .i64 x) := by have := h1 0 _ rfl; simpa using this
            have HX := hide (fun h => all_upto (f := lev) HA.out hx h)
            have HXN := hide (fun h => all_not (f := lev) hxm h)
            have hki : (k : Int) < n := by omega
            clear h1 hx hxm
            have hbl : bb < w.heap.size := World.block_lt_of_cell? w ⟨bb, oo + k, none⟩ hcell
            rcases (by omega : x < 0 ∨ (0 ≤ x ∧ 15 < x) ∨ (0 ≤ x ∧ x ≤ 15)) with h0 | ⟨h0, h2⟩ | ⟨h0, h2⟩
            · go_wp2
              go_ret
              exact ⟨by rw [HR.out, if_neg (by rw [HXN.out (by simp [lev]; omega)]; simp)] <;> rfl, Below.alloc (Below.refl _ _) (Nat.le_refl _) _⟩
            · have h0' : ¬ x < 0 := by omega
              go_wp2
              go_ret
              exact ⟨by rw [HR.out, if_neg (by rw [HXN.out (by simp [lev]; omega)]; simp)] <;> rfl, Below.alloc (Below.refl _ _) (Nat.le_refl _) _⟩
            · have h0' : ¬ x < 0 := by omega
              have h2' : ¬ 15 < x := by omega
              go_wp2
              go_round
              case rel => exact ⟨k + 1, by omega, by go_num, HX.out (by simp [lev]; omega)⟩
              case measure => simp [intOf]; omega
          · have hfull := hide (all_full HA.out (by have := HT.out.2; omega))
            go_wp2
            go_ret
            exact ⟨by rw [HR.out, if_pos hfull.out] <;> rfl, Below.alloc (Below.refl _ _) (Nat.le_refl _) _⟩
      · rw [if_pos hnm] at hR
        have HR := hide hR
        clear hR
        have hnm' : ((n : Int) == a * b) = false := by simpa using hnm
        have hnm2 : ((n : Int) != a * b) = true := by simpa using hnm
        clear hnm hr hn
        go_enter Tryd.func7, Tryd.ntmps7
        go_wp2
        go_ret
        exact ⟨by rw [HR.out] <;> rfl, Below.alloc (Below.refl _ _) (Nat.le_refl _) _⟩
    · rw [if_pos (by simp [hb])] at hR
      have HR := hide hR
      obtain ⟨a1, a2⟩ := ha
      clear hR
      rcases (by unfold side at hb; omega : b < 1 ∨ (1 ≤ b ∧ 64 < b)) with h0 | ⟨h0, h1⟩
      · have h0' : ¬ 1 ≤ b := by omega
        clear hb hr hn
        go_enter Tryd.func7, Tryd.ntmps7
        go_wp2
        go_ret
        exact ⟨by rw [HR.out] <;> rfl, Below.alloc (Below.refl _ _) (Nat.le_refl _) _⟩
      · have h1' : ¬ b ≤ 64 := by omega
        clear hb hr hn
        go_enter Tryd.func7, Tryd.ntmps7
        go_wp2
        go_ret
        exact ⟨by rw [HR.out] <;> rfl, Below.alloc (Below.refl _ _) (Nat.le_refl _) _⟩
  · rw [if_pos (by simp [ha])] at hR
    have HR := hide hR
    clear hR
    rcases (by unfold side at ha; omega : a < 1 ∨ (1 ≤ a ∧ 64 < a)) with h0 | ⟨h0, h1⟩
    · have h0' : ¬ 1 ≤ a := by omega
      clear ha hr hn
      go_enter Tryd.func7, Tryd.ntmps7
      go_wp2
      go_ret
      exact ⟨by rw [HR.out] <;> rfl, Below.alloc (Below.refl _ _) (Nat.le_refl _) _⟩
    · have h1' : ¬ a ≤ 64 := by omega
      clear ha hr hn
      go_enter Tryd.func7, Tryd.ntmps7
      go_wp2
      go_ret
      exact ⟨by rw [HR.out] <;> rfl, Below.alloc (Below.refl _ _) (Nat.le_refl _) _⟩
end Go.Proofs.YtkldjnopapipfaaDoor.img
