/-
  lang.ruleFault: the error of a rule.
-/
import Derived.Test.YtkldjnopapipfaaRule4
namespace Go.Proofs.Ytkldjnopapipfaa
open Go.RowKit
set_option linter.unusedVariables false

def okCnt (N : Nat) (t : Tst) : Bool := decide (cntN N t ≤ 20)
def okLv (N : Nat) (t : Tst) : Bool := decide (lvN N t ≤ 12)
def fault (N : Nat) (l : List Tst) : Int :=
  if 6 < l.length then 4 else if l.all (okCnt N) = false then 4 else if l.all (okLv N) = false then 13 else if l.all (frmN N) = false then 1 else if l.all (rngN N) = false then 2 else 0
theorem at_wr {K : Act → World → Prop} {a : Act} {W : World} (F : World → Prop) (hF : F W) (h : ∀ W', F W' → K a W') : K a W := h W hF
structure OwnR (w W : World) (u : Value) : Prop where
  below : Below w.heap.size w W
  s0 : W.cell? ⟨w.heap.size, 0, none⟩ = some u
theorem OwnR.keep {w W W' : World} {u : Value} (h : OwnR w W u) (hb : Below W.heap.size W W') : OwnR w W' u := ⟨h.below.trans (hb.mono h.below.size), keept hb h.s0⟩
theorem OwnR.start (w : World) (u : Value) (t : TypeId) : OwnR w (w.alloc (.cells #[u] t)) u :=
  ⟨Below.alloc (Below.refl _ _) (Nat.le_refl _) _, (World.cell?_alloc_at _ _ _ _ rfl).trans rfl⟩
def RuRel (f : Tst → Bool) (l : List Tst) (n : Nat) (w : World) (u : Value) (v : Value) (wr : World) : Prop :=
  ∃ k : Nat, k ≤ n ∧ v = .int .i64 k ∧ (∀ y ∈ l.take k, f y = true) ∧ OwnR w wr u

set_option maxHeartbeats 4000000 in
set_option maxRecDepth 100000 in
theorem ruleFault_any (N : Nat) (A : Option Addr) (n c : Nat) (l : List Tst) (w : World) (hn : l.length = n) (hsl : SlOk A n c 56) (hr : Rd w 5 Tst.cells A l) (hk : ∀ x ∈ l, TR w N x) (hc : ∀ x ∈ l, cntN N x ≤ 2000000) :
    Calls Try.prog 63 #[.agg #[.slice A n c]] w fun e w' => e = .returned (.int .i64 (fault N l)) ∧ Below w.heap.size w w' := by
  have hnb : n ≤ 100000000000000 := by have := hsl.nc; have := hsl.cb; omega
  have HT := hide (And.intro hc (And.intro hr (And.intro hk hn)))
  obtain ⟨R, hR⟩ : ∃ R, R = fault N l := ⟨_, rfl⟩
  rw [← hR]
  unfold fault at hR
  rw [hn] at hR
  clear hr hk hn hsl hc
  by_cases h6 : 6 < n
  · have h6' : (6 : Int) < n := by omega
    rw [if_pos h6] at hR
    have HR := hide hR
    clear hR h6
    go_enter Try.func63, Try.ntmps63
    go_wp2_with fail
    go_ret
    exact ⟨by rw [HR.out]; rfl, Below.alloc (Below.refl _ _) (Nat.le_refl _) _⟩
  · rw [if_neg h6] at hR
    have h6' : ¬ (6 : Int) < n := by omega
    have HR := hide hR
    clear hR
    go_enter Try.func63, Try.ntmps63
    go_wp2_with fail
    refine at_wr (fun W => OwnR w W (.slice A n c)) (OwnR.start _ _ _) ?_
    rintro W hO
    have HO := hide hO
    clear hO
    go_loopw [18] (RuRel (okCnt N) l n w (.slice A n c)) (fun v _ => n - (intOf v).toNat)
    case atStart => exact ⟨0, by omega, rfl, fun y hy => by simp at hy, HO.out⟩
    case round =>
      clear HO
      obtain ⟨k, hk, rfl, hall, hO⟩ := hrel
      have HA := hide hall
      have HO := hide hO
      have hb := hO.below
      have s0 := hO.s0
      have hwl : w.heap.size < wr.heap.size := World.block_lt_of_cell? wr _ s0
      clear hall hO
      by_cases hlt : k < n
      · obtain ⟨_, hrd, hkr, hln⟩ := HT.out
        obtain ⟨b, oo, x, rfl, hx, hm, h1⟩ := (hrd.keep hb).at_ (k := k) (by omega)
        have hxr := (hkr x hm).keep hb
        have hki : (k : Int) < n := by omega
        have HX := hide (fun h => all_upto (f := okCnt N) HA.out hx h)
        have HXN := hide (fun h => all_not (f := okCnt N) hm h)
        have HCx := hide (fun (w' : World) (hb' : Below wr.heap.size wr w') => calls_from hb' (tests_any N x w' (hxr.keep hb') (HT.out.1 x hm)))
        obtain ⟨cx, hcx⟩ : ∃ cx, cx = cntN N x := ⟨_, rfl⟩
        have hp : okCnt N x = decide (cx ≤ 20) := by rw [hcx]; rfl
        rw [← hcx] at HCx
        rw [hp] at HX HXN
        clear hcx hp
        clear hrd hkr hln hx hm hxr
        obtain ⟨xo, xm, xl, xh, xA, xn, xc, xk⟩ := x
        have a0 : wr.cell? ⟨b, oo + k * 5, none⟩ = some (.int .i64 xo) := h1 0 _ rfl
        have a1 : wr.cell? ⟨b, oo + k * 5 + 1, none⟩ = some (.int .i64 xm) := h1 1 _ rfl
        have a2 : wr.cell? ⟨b, oo + k * 5 + 2, none⟩ = some (.int .i64 xl) := h1 2 _ rfl
        have a3 : wr.cell? ⟨b, oo + k * 5 + 3, none⟩ = some (.int .i64 xh) := h1 3 _ rfl
        have a4 : wr.cell? ⟨b, oo + k * 5 + 4, none⟩ = some (.slice xA xn xc) := h1 4 _ rfl
        clear h1
        have HCy : Hid (∀ (w' : World), Below wr.heap.size wr w' → Calls Try.prog 101 #[.agg #[.int .i64 xo, .int .i64 xm, .int .i64 xl, .int .i64 xh, .slice xA xn xc]] w' fun e w'' => TestsQ cx e ∧ Below wr.heap.size wr w'') := HCx
        clear HCx
        by_cases h20 : cx ≤ 20
        · have H20 := hide h20
          go_wp2_with (go_at_call 101; refine (HCy.out _ (Below.alloc (Below.refl _ _) (Nat.le_refl _) _)).mono ?_; rintro e w1 ⟨⟨r, rfl, hf⟩, hb1⟩; have hr20 : ¬ 20 < r := (by have h0 := hf.2.1; have h1 := H20.out; omega); clear hf)
          go_roundw
          case rel => exact ⟨k + 1, by omega, by go_num, HX.out (decide_eq_true H20.out), HO.out.keep hb1⟩
          case measure => simp [intOf]; omega
        · have H20 := hide h20
          go_wp2_with (go_at_call 101; refine (HCy.out _ (Below.alloc (Below.refl _ _) (Nat.le_refl _) _)).mono ?_; rintro e w1 ⟨⟨r, rfl, hf⟩, hb1⟩; have hr20 : 20 < r := (by have h1 := H20.out; exact hf.2.2.2 (by omega)); clear hf)
          go_ret
          exact ⟨by rw [HR.out, if_pos (HXN.out (by exact decide_eq_false H20.out))]; rfl, (HO.out.keep hb1).below⟩
      · have hfull : l.all (okCnt N) = true := all_full HA.out (by have := HT.out.2.2.2; omega)
        have HR' := hide (HR.out.trans (if_neg (by rw [hfull]; simp)))
        clear hfull HR HA
        have HR := HR'
        clear HR'
        go_wp2_with fail
        go_loopw [29] (RuRel (okLv N) l n w (.slice A n c)) (fun v _ => n - (intOf v).toNat)
        case atStart => exact ⟨0, by omega, rfl, fun y hy => by simp at hy, HO.out⟩
        case round =>
          clear HO
          obtain ⟨k, hk, rfl, hall, hO⟩ := hrel
          have HA := hide hall
          have HO := hide hO
          have hb := hO.below
          have s0 := hO.s0
          have hwl : w.heap.size < wr.heap.size := World.block_lt_of_cell? wr _ s0
          clear hall hO
          by_cases hlt : k < n
          · obtain ⟨_, hrd, hkr, hln⟩ := HT.out
            obtain ⟨b, oo, x, rfl, hx, hm, h1⟩ := (hrd.keep hb).at_ (k := k) (by omega)
            have hxr := (hkr x hm).keep hb
            have hki : (k : Int) < n := by omega
            have HX := hide (fun h => all_upto (f := okLv N) HA.out hx h)
            have HXN := hide (fun h => all_not (f := okLv N) hm h)
            have HCx := hide (fun (w' : World) (hb' : Below wr.heap.size wr w') => calls_from hb' (levels_any N x w' (hxr.keep hb') (HT.out.1 x hm)))
            have hlc := Nat.le_trans (lv_le_cnt N x) (HT.out.1 x hm)
            obtain ⟨cx, hcx⟩ : ∃ cx, cx = lvN N x := ⟨_, rfl⟩
            have hp : okLv N x = decide (cx ≤ 12) := by rw [hcx]; rfl
            rw [← hcx] at HCx hlc
            rw [hp] at HX HXN
            clear hcx hp
            clear hrd hkr hln hx hm hxr
            obtain ⟨xo, xm, xl, xh, xA, xn, xc, xk⟩ := x
            have a0 : wr.cell? ⟨b, oo + k * 5, none⟩ = some (.int .i64 xo) := h1 0 _ rfl
            have a1 : wr.cell? ⟨b, oo + k * 5 + 1, none⟩ = some (.int .i64 xm) := h1 1 _ rfl
            have a2 : wr.cell? ⟨b, oo + k * 5 + 2, none⟩ = some (.int .i64 xl) := h1 2 _ rfl
            have a3 : wr.cell? ⟨b, oo + k * 5 + 3, none⟩ = some (.int .i64 xh) := h1 3 _ rfl
            have a4 : wr.cell? ⟨b, oo + k * 5 + 4, none⟩ = some (.slice xA xn xc) := h1 4 _ rfl
            clear h1
            have HCy : Hid (∀ (w' : World), Below wr.heap.size wr w' → Calls Try.prog 102 #[.agg #[.int .i64 xo, .int .i64 xm, .int .i64 xl, .int .i64 xh, .slice xA xn xc]] w' fun e w'' => e = .returned (.int .i64 cx) ∧ Below wr.heap.size wr w'') := HCx
            clear HCx
            by_cases h12 : cx ≤ 12
            · have H12 := hide h12
              have h12' : ¬ (12 : Int) < cx := by omega
              go_wp2_with (go_at_call 102; refine (HCy.out _ (Below.alloc (Below.refl _ _) (Nat.le_refl _) _)).mono ?_; rintro e w1 ⟨rfl, hb1⟩)
              go_roundw
              case rel => exact ⟨k + 1, by omega, by go_num, HX.out (decide_eq_true H12.out), HO.out.keep hb1⟩
              case measure => simp [intOf]; omega
            · have H12 := hide h12
              have h12' : (12 : Int) < cx := by omega
              go_wp2_with (go_at_call 102; refine (HCy.out _ (Below.alloc (Below.refl _ _) (Nat.le_refl _) _)).mono ?_; rintro e w1 ⟨rfl, hb1⟩)
              go_ret
              exact ⟨by rw [HR.out, if_pos (HXN.out (by exact decide_eq_false H12.out))]; rfl, (HO.out.keep hb1).below⟩
          · have hfull : l.all (okLv N) = true := all_full HA.out (by have := HT.out.2.2.2; omega)
            have HR' := hide (HR.out.trans (if_neg (by rw [hfull]; simp)))
            clear hfull HR HA
            have HR := HR'
            clear HR'
            go_wp2_with fail
            go_loopw [40] (RuRel (frmN N) l n w (.slice A n c)) (fun v _ => n - (intOf v).toNat)
            case atStart => exact ⟨0, by omega, rfl, fun y hy => by simp at hy, HO.out⟩
            case round =>
              clear HO
              obtain ⟨k, hk, rfl, hall, hO⟩ := hrel
              have HA := hide hall
              have HO := hide hO
              have hb := hO.below
              have s0 := hO.s0
              have hwl : w.heap.size < wr.heap.size := World.block_lt_of_cell? wr _ s0
              clear hall hO
              by_cases hlt : k < n
              · obtain ⟨_, hrd, hkr, hln⟩ := HT.out
                obtain ⟨b, oo, x, rfl, hx, hm, h1⟩ := (hrd.keep hb).at_ (k := k) (by omega)
                have hxr := (hkr x hm).keep hb
                have hki : (k : Int) < n := by omega
                have HX := hide (fun h => all_upto (f := frmN N) HA.out hx h)
                have HXN := hide (fun h => all_not (f := frmN N) hm h)
                have HCx := hide (fun (w' : World) (hb' : Below wr.heap.size wr w') => calls_from hb' (testForm_any N x w' (hxr.keep hb') (HT.out.1 x hm)))
                obtain ⟨fx, hfx⟩ : ∃ fx, fx = frmN N x := ⟨_, rfl⟩
                rw [← hfx] at HX HXN HCx
                clear hfx
                clear hrd hkr hln hx hm hxr
                obtain ⟨xo, xm, xl, xh, xA, xn, xc, xk⟩ := x
                have a0 : wr.cell? ⟨b, oo + k * 5, none⟩ = some (.int .i64 xo) := h1 0 _ rfl
                have a1 : wr.cell? ⟨b, oo + k * 5 + 1, none⟩ = some (.int .i64 xm) := h1 1 _ rfl
                have a2 : wr.cell? ⟨b, oo + k * 5 + 2, none⟩ = some (.int .i64 xl) := h1 2 _ rfl
                have a3 : wr.cell? ⟨b, oo + k * 5 + 3, none⟩ = some (.int .i64 xh) := h1 3 _ rfl
                have a4 : wr.cell? ⟨b, oo + k * 5 + 4, none⟩ = some (.slice xA xn xc) := h1 4 _ rfl
                clear h1
                have HCy : Hid (∀ (w' : World), Below wr.heap.size wr w' → Calls Try.prog 103 #[.agg #[.int .i64 xo, .int .i64 xm, .int .i64 xl, .int .i64 xh, .slice xA xn xc]] w' fun e w'' => e = .returned (.bool fx) ∧ Below wr.heap.size wr w'') := HCx
                clear HCx
                cases fx
                · go_wp2_with (go_at_call 103; refine (HCy.out _ (Below.alloc (Below.refl _ _) (Nat.le_refl _) _)).mono ?_; rintro e w1 ⟨rfl, hb1⟩)
                  go_ret
                  exact ⟨by rw [HR.out, if_pos (HXN.out (by simp))]; rfl, (HO.out.keep hb1).below⟩
                · go_wp2_with (go_at_call 103; refine (HCy.out _ (Below.alloc (Below.refl _ _) (Nat.le_refl _) _)).mono ?_; rintro e w1 ⟨rfl, hb1⟩)
                  go_roundw
                  case rel => exact ⟨k + 1, by omega, by go_num, HX.out (by simp), HO.out.keep hb1⟩
                  case measure => simp [intOf]; omega
              · have hfull : l.all (frmN N) = true := all_full HA.out (by have := HT.out.2.2.2; omega)
                have HR' := hide (HR.out.trans (if_neg (by rw [hfull]; simp)))
                clear hfull HR HA
                have HR := HR'
                clear HR'
                go_wp2_with fail
                go_loopw [51] (RuRel (rngN N) l n w (.slice A n c)) (fun v _ => n - (intOf v).toNat)
                case atStart => exact ⟨0, by omega, rfl, fun y hy => by simp at hy, HO.out⟩
                case round =>
                  clear HO
                  obtain ⟨k, hk, rfl, hall, hO⟩ := hrel
                  have HA := hide hall
                  have HO := hide hO
                  have hb := hO.below
                  have s0 := hO.s0
                  have hwl : w.heap.size < wr.heap.size := World.block_lt_of_cell? wr _ s0
                  clear hall hO
                  by_cases hlt : k < n
                  · obtain ⟨_, hrd, hkr, hln⟩ := HT.out
                    obtain ⟨b, oo, x, rfl, hx, hm, h1⟩ := (hrd.keep hb).at_ (k := k) (by omega)
                    have hxr := (hkr x hm).keep hb
                    have hki : (k : Int) < n := by omega
                    have HX := hide (fun h => all_upto (f := rngN N) HA.out hx h)
                    have HXN := hide (fun h => all_not (f := rngN N) hm h)
                    have HCx := hide (fun (w' : World) (hb' : Below wr.heap.size wr w') => calls_from hb' (testRange_any N x w' (hxr.keep hb') (HT.out.1 x hm)))
                    obtain ⟨fx, hfx⟩ : ∃ fx, fx = rngN N x := ⟨_, rfl⟩
                    rw [← hfx] at HX HXN HCx
                    clear hfx
                    clear hrd hkr hln hx hm hxr
                    obtain ⟨xo, xm, xl, xh, xA, xn, xc, xk⟩ := x
                    have a0 : wr.cell? ⟨b, oo + k * 5, none⟩ = some (.int .i64 xo) := h1 0 _ rfl
                    have a1 : wr.cell? ⟨b, oo + k * 5 + 1, none⟩ = some (.int .i64 xm) := h1 1 _ rfl
                    have a2 : wr.cell? ⟨b, oo + k * 5 + 2, none⟩ = some (.int .i64 xl) := h1 2 _ rfl
                    have a3 : wr.cell? ⟨b, oo + k * 5 + 3, none⟩ = some (.int .i64 xh) := h1 3 _ rfl
                    have a4 : wr.cell? ⟨b, oo + k * 5 + 4, none⟩ = some (.slice xA xn xc) := h1 4 _ rfl
                    clear h1
                    have HCy : Hid (∀ (w' : World), Below wr.heap.size wr w' → Calls Try.prog 104 #[.agg #[.int .i64 xo, .int .i64 xm, .int .i64 xl, .int .i64 xh, .slice xA xn xc]] w' fun e w'' => e = .returned (.bool fx) ∧ Below wr.heap.size wr w'') := HCx
                    clear HCx
                    cases fx
                    · go_wp2_with (go_at_call 104; refine (HCy.out _ (Below.alloc (Below.refl _ _) (Nat.le_refl _) _)).mono ?_; rintro e w1 ⟨rfl, hb1⟩)
                      go_ret
                      exact ⟨by rw [HR.out, if_pos (HXN.out (by simp))]; rfl, (HO.out.keep hb1).below⟩
                    · go_wp2_with (go_at_call 104; refine (HCy.out _ (Below.alloc (Below.refl _ _) (Nat.le_refl _) _)).mono ?_; rintro e w1 ⟨rfl, hb1⟩)
                      go_roundw
                      case rel => exact ⟨k + 1, by omega, by go_num, HX.out (by simp), HO.out.keep hb1⟩
                      case measure => simp [intOf]; omega
                  · have hfull : l.all (rngN N) = true := all_full HA.out (by have := HT.out.2.2.2; omega)
                    have HR' := hide (HR.out.trans (if_neg (by rw [hfull]; simp)))
                    clear hfull HR HA
                    have HR := HR'
                    clear HR'
                    go_wp2_with fail
                    go_ret
                    exact ⟨by rw [HR.out]; rfl, hb⟩
end Go.Proofs.Ytkldjnopapipfaa
