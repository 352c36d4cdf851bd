/-
  slices.IndexFunc and slices.ContainsFunc at lang.Test, for each function that the reference hands them.
-/
import Derived.Test.YtkldjnopapipfaaRule7
namespace Go.Proofs.Ytkldjnopapipfaa
open Go.RowKit
set_option linter.unusedVariables false

def IfRel (f : Tst → Bool) (l : List Tst) (n : Nat) (w : World) (v : Value) (wr : World) : Prop := ∃ k : Nat, k ≤ n ∧ v = .int .i64 k ∧ (∀ y ∈ l.take k, f y = true) ∧ Below w.heap.size w wr

set_option maxHeartbeats 2000000 in
set_option maxRecDepth 100000 in
/-- HF: what the function answers of each element, in every world not below w. -/
theorem indexFunc_range (A : Option Addr) (n c : Nat) (l : List Tst) (p : Tst → Bool) (w : World) (hn : l.length = n) (hnb : n ≤ 100000000000000) (hr : Rd w 5 Tst.cells A l)
    (hF : ∀ x ∈ l, ∀ w', Below w.heap.size w w' → Calls Try.prog 108 #[x.val] w' fun e w'' => e = .returned (.bool (p x)) ∧ Below w'.heap.size w' w'') :
    Calls Try.prog 124 #[.slice A n c, .func (.func 108) #[] #[]] w fun e w' => (∃ r : Int, e = .returned (.int .i64 r) ∧ (0 ≤ r ↔ l.any p = true)) ∧ Below w.heap.size w w' := by
  have HT := hide (And.intro hr (And.intro hF hn))
  clear hr hF hn
  go_enter Try.func124, Try.ntmps124
  go_wp2_with fail
  go_loopw [8] (IfRel (fun t => !p t) l n w) (fun v _ => n - (intOf v).toNat)
  case atStart => exact ⟨0, by omega, rfl, fun y hy => by simp at hy, Below.refl _ _⟩
  case round =>
    obtain ⟨k, hk, rfl, hall, hb⟩ := hrel
    have HA := hide hall
    clear hall
    by_cases hlt : k < n
    · obtain ⟨b, oo, x, rfl, hx, hm, h1⟩ := (HT.out.1.keep hb).at_ (k := k) (by have := HT.out.2.2; omega)
      have hki : (k : Int) < n := by omega
      have HX := hide (fun h => all_upto (f := fun t => !p t) HA.out hx h)
      have HXA := hide (fun h => any_yes (f := p) hm h)
      have HCx := hide (fun (w' : World) (hb' : Below wr.heap.size wr w') => calls_from hb' (HT.out.2.1 x hm w' (hb.trans (hb'.mono hb.size))))
      obtain ⟨fx, hfx⟩ : ∃ fx, fx = p x := ⟨_, rfl⟩
      simp only [← hfx] at HX HXA HCx
      clear hfx hx hm
      obtain ⟨xo, xm, xl, xh, xA, xn, xc, xk⟩ := x
      have a0 : wr.cell? ⟨b, oo + k * 5, none⟩ = some (.int .i64 xo) := h1 0 _ rfl
      have a1 : wr.cell? ⟨b, oo + k * 5 + 1, none⟩ = some (.int .i64 xm) := h1 1 _ rfl
      have a2 : wr.cell? ⟨b, oo + k * 5 + 2, none⟩ = some (.int .i64 xl) := h1 2 _ rfl
      have a3 : wr.cell? ⟨b, oo + k * 5 + 3, none⟩ = some (.int .i64 xh) := h1 3 _ rfl
      have a4 : wr.cell? ⟨b, oo + k * 5 + 4, none⟩ = some (.slice xA xn xc) := h1 4 _ rfl
      clear h1
      have HCy : Hid (∀ (w' : World), Below wr.heap.size wr w' → Calls Try.prog 108 #[.agg #[.int .i64 xo, .int .i64 xm, .int .i64 xl, .int .i64 xh, .slice xA xn xc]] w' fun e w'' => e = .returned (.bool fx) ∧ Below wr.heap.size wr w'') := HCx
      clear HCx
      cases fx
      · go_wp2_with (go_at_call 108; refine (HCy.out _ (Below.refl _ _)).mono ?_; rintro e w1 ⟨rfl, hb1⟩)
        go_roundw
        case rel => exact ⟨k + 1, by omega, by go_num, HX.out (by simp), hb.trans (hb1.mono hb.size)⟩
        case measure => simp [intOf]; omega
      · go_wp2_with (go_at_call 108; refine (HCy.out _ (Below.refl _ _)).mono ?_; rintro e w1 ⟨rfl, hb1⟩)
        go_ret
        exact ⟨⟨k, rfl, fun _ => HXA.out (by simp), fun _ => by omega⟩, hb.trans (hb1.mono hb.size)⟩
    · have hfin := hide (any_none (f := p) HA.out (by have := HT.out.2.2; omega))
      go_wp2_with fail
      go_ret
      exact ⟨⟨-1, rfl, fun h => by omega, fun h => by
        first
          | (rw [hfin.out] at h; cases h)
          | (obtain ⟨x, hx, hp⟩ := h; exact absurd hp (List.any_eq_false.1 hfin.out x hx))⟩, hb⟩

set_option maxHeartbeats 2000000 in
set_option maxRecDepth 100000 in
theorem containsFunc_range (A : Option Addr) (n c : Nat) (l : List Tst) (p : Tst → Bool) (w : World) (hn : l.length = n) (hnb : n ≤ 100000000000000) (hr : Rd w 5 Tst.cells A l)
    (hF : ∀ x ∈ l, ∀ w', Below w.heap.size w w' → Calls Try.prog 108 #[x.val] w' fun e w'' => e = .returned (.bool (p x)) ∧ Below w'.heap.size w' w'') :
    Calls Try.prog 107 #[.slice A n c, .func (.func 108) #[] #[]] w fun e w' => e = .returned (.bool (l.any p)) ∧ Below w.heap.size w w' := by
  have HI := hide (indexFunc_range A n c l p w hn hnb hr hF)
  clear hr hF hn
  go_enter Try.func107, Try.ntmps107
  go_wp2_with (go_at_call 124; refine HI.out.mono ?_; rintro e w1 ⟨⟨r, rfl, hr⟩, hb⟩; have HR := hide hr; clear hr)
  go_ret
  refine ⟨?_, hb⟩
  have h := HR.out
  cases hp : l.any p
  · rw [hp] at h
    have : ¬ 0 ≤ r := fun h0 => by have := h.1 h0; cases this
    rw [show (false : Bool) = decide (0 ≤ r) from (decide_eq_false this).symm]
    rfl
  · rw [hp] at h
    rw [show (true : Bool) = decide (0 ≤ r) from (decide_eq_true (h.2 rfl)).symm]
    rfl
end Go.Proofs.Ytkldjnopapipfaa
