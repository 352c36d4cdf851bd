/-
  lang.Form: the error of the rule, or the first form whose test holds.
-/
import Derived.Test.YtkldjnopapipfaaRule6
namespace Go.Proofs.Ytkldjnopapipfaa
open Go.RowKit
set_option linter.unusedVariables false

theorem fault_right {N : Nat} {l : List Tst} (h : fault N l = 0) : ∀ x ∈ l, Right N x := by
  unfold fault at h
  intro x hx
  by_cases h1 : l.all (frmN N) = false
  · rw [if_pos h1] at h
    repeat' split at h
    all_goals omega
  · by_cases h2 : l.all (rngN N) = false
    · rw [if_neg h1, if_pos h2] at h
      repeat' split at h
      all_goals omega
    · simp only [Bool.not_eq_false, List.all_eq_true] at h1 h2
      exact ⟨h1 x hx, h2 x hx⟩

def formOf (N : Nat) (l : List Tst) (v : Int) : Int := if fault N l = 0 then (l.findIdx fun t => hldN N t (mag v) : Nat) else 0

set_option maxHeartbeats 2000000 in
set_option maxRecDepth 100000 in
theorem langForm_any (N : Nat) (A : Option Addr) (n c : Nat) (l : List Tst) (v : Int) (w : World) (hv : In64 v) (hn : l.length = n) (hsl : SlOk A n c 56) (hr : Rd w 5 Tst.cells A l) (hk : ∀ x ∈ l, TR w N x) (hc : ∀ x ∈ l, cntN N x ≤ 2000000) :
    Calls Try.prog 20 #[.agg #[.slice A n c], .int .i64 v] w fun e w' => e = .returned (.tuple #[.int .i64 (formOf N l v), .int .i64 (fault N l)]) ∧ Below w.heap.size w w' := by
  have HF := hide (fun (w' : World) (hb' : Below w.heap.size w w') => ruleFault_any N A n c l w' hn hsl (hr.keep hb') (fun x hx => (hk x hx).keep hb') hc)
  have HG := hide (fun (h0 : fault N l = 0) (w' : World) (hb' : Below w.heap.size w w') => calls_from hb' (form_any N A n c l v w' hv hn hsl (hr.keep hb') (fun x hx => (hk x hx).keep hb') (fault_right h0)))
  obtain ⟨i, hi⟩ : ∃ i : Nat, i = l.findIdx fun t => hldN N t (mag v) := ⟨_, rfl⟩
  have HR := hide (show formOf N l v = if fault N l = 0 then (i : Int) else 0 by rw [hi]; rfl)
  rw [← hi] at HG
  obtain ⟨R, hR⟩ : ∃ R, R = formOf N l v := ⟨_, rfl⟩
  rw [← hR] at HR ⊢
  obtain ⟨z, hz⟩ : ∃ z, z = fault N l := ⟨_, rfl⟩
  rw [← hz] at HF HG HR ⊢
  clear hi hR hz hr hk hc hsl hn hv
  by_cases h0 : z = 0
  · subst h0
    have HR1 := hide (HR.out.trans (if_pos rfl))
    have HG1 := hide (HG.out rfl)
    clear HR HG
    go_enter Try.func20, Try.ntmps20
    go_wp2_with (first
      | (go_at_call 63; refine (HF.out _ (Below.alloc (Below.refl _ _) (Nat.le_refl _) _)).mono ?_; rintro e w1 ⟨rfl, hb0⟩; have q0 : w1.cell? ⟨w.heap.size, 0, none⟩ = some (.slice A n c) := keept hb0 ((World.cell?_alloc_at _ _ _ _ rfl).trans rfl); have hb1 : Below w.heap.size w w1 := (Below.alloc (Below.refl _ _) (Nat.le_refl _) _).trans (hb0.mono (by simp)))
      | (go_at_call 64; refine (HG1.out _ hb1).mono ?_; rintro e w2 ⟨rfl, hb2⟩))
    go_ret2
    exact ⟨by rw [HR1.out]; rfl, hb2⟩
  · have HR1 := hide (HR.out.trans (if_neg h0))
    have h0' : (z != 0) = true := by simpa using h0
    clear HR h0
    go_enter Try.func20, Try.ntmps20
    go_wp2_with (go_at_call 63; refine (HF.out _ (Below.alloc (Below.refl _ _) (Nat.le_refl _) _)).mono ?_; rintro e w1 ⟨rfl, hb0⟩; have hb1 : Below w.heap.size w w1 := (Below.alloc (Below.refl _ _) (Nat.le_refl _) _).trans (hb0.mono (by simp)))
    go_ret2
    exact ⟨by rw [HR1.out]; rfl, hb1⟩
end Go.Proofs.Ytkldjnopapipfaa
