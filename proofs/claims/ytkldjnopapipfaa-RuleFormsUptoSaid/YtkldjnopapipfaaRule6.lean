/-
  lang.form and lang.Form: the first form whose test holds.
-/
import Derived.Test.YtkldjnopapipfaaRule5
namespace Go.Proofs.Ytkldjnopapipfaa
open Go.RowKit
set_option linter.unusedVariables false
attribute [local go_sem ↓] Go.wp_at_zero Go.wp_at_succ

theorem mag_le {n : Int} (h : In64 n) : 0 ≤ mag n ∧ mag n < 18446744073709551616 := by
  obtain ⟨h0, h1⟩ := h
  unfold mag
  split <;> omega

theorem idx_at {α : Type} {p : α → Bool} {l : List α} {k : Nat} {x : α} (hx : l[k]? = some x) (hp : p x = true) (h : ∀ y ∈ l.take k, (!p y) = true) : l.findIdx p = k := by
  obtain ⟨hk, rfl⟩ := List.getElem?_eq_some_iff.1 hx
  rw [List.findIdx_eq hk]
  refine ⟨hp, fun j hj => ?_⟩
  have := h l[j] (by rw [List.mem_take_iff_getElem]; exact ⟨j, by omega, rfl⟩)
  simpa using this
theorem idx_none {α : Type} {p : α → Bool} {l : List α} {k : Nat} (hk : l.length ≤ k) (h : ∀ y ∈ l.take k, (!p y) = true) : l.findIdx p = l.length := by
  rw [List.take_of_length_le hk] at h
  rw [List.findIdx_eq_length]
  intro x hx
  simpa using h x hx

theorem keep5 {w w' : World} {b0 b1 b2 b3 b4 : Addr} {v0 v1 v2 v3 v4 : Value} (hb : Below w.heap.size w w') (h : w.cell? b0 = some v0 ∧ w.cell? b1 = some v1 ∧ w.cell? b2 = some v2 ∧ w.cell? b3 = some v3 ∧ w.cell? b4 = some v4) :
    w'.cell? b0 = some v0 ∧ w'.cell? b1 = some v1 ∧ w'.cell? b2 = some v2 ∧ w'.cell? b3 = some v3 ∧ w'.cell? b4 = some v4 :=
  ⟨keept hb h.1, keept hb h.2.1, keept hb h.2.2.1, keept hb h.2.2.2.1, keept hb h.2.2.2.2⟩

set_option maxHeartbeats 4000000 in
set_option maxRecDepth 100000 in
theorem form_any (N : Nat) (A : Option Addr) (n c : Nat) (l : List Tst) (v : Int) (w : World) (hv : In64 v) (hn : l.length = n) (hsl : SlOk A n c 56) (hr : Rd w 5 Tst.cells A l) (hk : ∀ x ∈ l, TR w N x) (hg : ∀ x ∈ l, Right N x) :
    Calls Try.prog 64 #[.agg #[.slice A n c], .int .i64 v] w fun e w' => e = .returned (.int .i64 (l.findIdx fun t => hldN N t (mag v))) ∧ Below w.heap.size w w' := by
  have hnb : n ≤ 100000000000000 := by have := hsl.nc; have := hsl.cb; omega
  have HT := hide (And.intro hg (And.intro hr (And.intro hk hn)))
  have HM := hide (fun w => magnitude_any v hv w)
  have HML := hide (mag_le hv)
  obtain ⟨x0, hx0⟩ : ∃ x0, x0 = mag v := ⟨_, rfl⟩
  rw [← hx0] at HM HML ⊢
  obtain ⟨R, hR⟩ : ∃ R, R = l.findIdx fun t => hldN N t x0 := ⟨_, rfl⟩
  rw [← hR]
  have HR := hide hR
  clear hr hk hn hsl hg hv hx0 hR
  go_enter Try.func64, Try.ntmps64
  go_wp2_with fail
  go_loopw [10] (RuRel (fun t => !hldN N t x0) l n w (.slice A n c)) (fun v _ => n - (intOf v).toNat)
  case atStart => exact ⟨0, by omega, rfl, fun y hy => by simp at hy, OwnR.start _ _ _⟩
  case round =>
    obtain ⟨k, hk, rfl, hall, hO⟩ := hrel
    have HA := hide hall
    have HO := hide hO
    have hb := hO.below
    have s0 := hO.s0
    have hwl : w.heap.size < wr.heap.size := World.block_lt_of_cell? wr _ s0
    clear hall hO
    by_cases hlt : k < n
    · obtain ⟨_, hrd, hkr, hln⟩ := HT.out
      obtain ⟨b, oo, x, rfl, hx, hm, h1⟩ := (hrd.keep hb).at_ (k := k) (by omega)
      have hxr := (hkr x hm).keep hb
      have hki : (k : Int) < n := by omega
      have HX := hide (fun h => all_upto (f := fun t => !hldN N t x0) HA.out hx h)
      have HXI := hide (fun h => idx_at (p := fun t => hldN N t x0) hx h HA.out)
      have HCx := hide (fun (w' : World) (hb' : Below wr.heap.size wr w') => holds_any N x x0 w' (hxr.keep hb') (HT.out.1 x hm) HML.out.1 HML.out.2)
      obtain ⟨fx, hfx⟩ : ∃ fx, fx = hldN N x x0 := ⟨_, rfl⟩
      simp only [← hfx] at HX HXI HCx
      clear hfx
      clear hrd hkr hln hx hm hxr
      obtain ⟨xo, xm, xl, xh, xA, xn, xc, xk⟩ := x
      have a0 : wr.cell? ⟨b, oo + k * 5, none⟩ = some (.int .i64 xo) := h1 0 _ rfl
      have a1 : wr.cell? ⟨b, oo + k * 5 + 1, none⟩ = some (.int .i64 xm) := h1 1 _ rfl
      have a2 : wr.cell? ⟨b, oo + k * 5 + 2, none⟩ = some (.int .i64 xl) := h1 2 _ rfl
      have a3 : wr.cell? ⟨b, oo + k * 5 + 3, none⟩ = some (.int .i64 xh) := h1 3 _ rfl
      have a4 : wr.cell? ⟨b, oo + k * 5 + 4, none⟩ = some (.slice xA xn xc) := h1 4 _ rfl
      clear h1
      have HCy : Hid (∀ (w' : World), Below wr.heap.size wr w' → Calls Try.prog 105 #[.agg #[.int .i64 xo, .int .i64 xm, .int .i64 xl, .int .i64 xh, .slice xA xn xc], .int .u64 x0] w' fun e w'' => e = .returned (.bool fx) ∧ Below w'.heap.size w' w'') := HCx
      clear HCx
      go_wp2_with fail
      go_region_held3 (fun w' => w'.cell? ⟨wr.heap.size, 0, none⟩ = some (.int .i64 xo) ∧ w'.cell? ⟨wr.heap.size, 1, none⟩ = some (.int .i64 xm) ∧ w'.cell? ⟨wr.heap.size, 2, none⟩ = some (.int .i64 xl) ∧ w'.cell? ⟨wr.heap.size, 3, none⟩ = some (.int .i64 xh) ∧ w'.cell? ⟨wr.heap.size, 4, none⟩ = some (.slice xA xn xc)) (first | go_keep | exact keep5 hb1 (by assumption))
        (first
          | (go_at_call 106; refine (HM.out _).mono ?_; rintro e w' ⟨rfl, rfl⟩)
          | (go_at_call 105; refine (HCy.out _ (Below.drew (Below.alloc (Below.refl _ _) (Nat.le_refl _) _))).mono ?_; rintro e w1 ⟨rfl, hb1⟩))
      rename_i hS
      clear hS
      have HK := hide (HO.out.keep ((Below.drew (Below.alloc (Below.refl _ _) (Nat.le_refl _) _)).trans (hb1.mono (by simp))))
      cases fx
      · go_wp2_with fail
        go_roundw
        case rel => exact ⟨k + 1, by omega, by go_num, HX.out (by simp), HK.out⟩
        case measure => simp [intOf]; omega
      · go_wp2_with fail
        go_ret
        exact ⟨by rw [HR.out, HXI.out (by simp)]; rfl, HK.out.below⟩
    · have hfin := hide (show R = n by rw [HR.out, idx_none (by have := HT.out.2.2.2; omega) HA.out]; exact HT.out.2.2.2)
      go_wp2_with fail
      go_ret
      exact ⟨by rw [hfin.out]; rfl, hb⟩
end Go.Proofs.Ytkldjnopapipfaa
