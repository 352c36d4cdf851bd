/-
  The reference's testHolds with its two closures.
-/
import Derived.Test.YtkldjnopapipfaaRule10
import Derived.Laws.EntriesVeiled
namespace Go.Proofs.Ytkldjnopapipfaa
open Go.RowKit
set_option linter.unusedVariables false

theorem below3 (w : World) (o1 o2 o3 : Obj) : Below w.heap.size w (((w.alloc o1).alloc o2).alloc o3) :=
  ((Below.alloc (Below.refl _ _) (Nat.le_refl _) _).alloc (by simp) _).alloc (by simp; omega) _

set_option maxHeartbeats 2000000 in
set_option maxRecDepth 100000 in
/-- HF: what the function answers of each element, in every world not below w. -/
theorem indexFunc_kid (cap : Addr) (A : Option Addr) (n c : Nat) (l : List Tst) (p : Tst → Bool) (w : World) (hn : l.length = n) (hnb : n ≤ 100000000000000) (hr : Rd w 5 Tst.cells A l)
    (hF : ∀ x ∈ l, ∀ w', Below w.heap.size w w' → Calls Try.prog 109 #[x.val, .pointer (some cap)] w' fun e w'' => e = .returned (.bool (p x)) ∧ Below w'.heap.size w' w'') :
    Calls Try.prog 124 #[.slice A n c, .func (.func 109) #[] #[.pointer (some cap)]] w fun e w' => (∃ r : Int, e = .returned (.int .i64 r) ∧ (0 ≤ r ↔ l.any p = true)) ∧ Below w.heap.size w w' := by
  have HT := hide (And.intro hr (And.intro hF hn))
  clear hr hF hn
  go_enter Try.func124, Try.ntmps124
  go_wp2_with fail
  go_loopw [8] (IfRel (fun t => !p t) l n w) (fun v _ => n - (intOf v).toNat)
  case atStart => exact ⟨0, by omega, rfl, fun y hy => by simp at hy, Below.refl _ _⟩
  case round =>
    obtain ⟨k, hk, rfl, hall, hb⟩ := hrel
    have HA := hide hall
    clear hall
    by_cases hlt : k < n
    · obtain ⟨b, oo, x, rfl, hx, hm, h1⟩ := (HT.out.1.keep hb).at_ (k := k) (by have := HT.out.2.2; omega)
      have hki : (k : Int) < n := by omega
      have HX := hide (fun h => all_upto (f := fun t => !p t) HA.out hx h)
      have HXA := hide (fun h => any_yes (f := p) hm h)
      have HCx := hide (fun (w' : World) (hb' : Below wr.heap.size wr w') => calls_from hb' (HT.out.2.1 x hm w' (hb.trans (hb'.mono hb.size))))
      obtain ⟨fx, hfx⟩ : ∃ fx, fx = p x := ⟨_, rfl⟩
      simp only [← hfx] at HX HXA HCx
      clear hfx hx hm
      obtain ⟨xo, xm, xl, xh, xA, xn, xc, xk⟩ := x
      have a0 : wr.cell? ⟨b, oo + k * 5, none⟩ = some (.int .i64 xo) := h1 0 _ rfl
      have a1 : wr.cell? ⟨b, oo + k * 5 + 1, none⟩ = some (.int .i64 xm) := h1 1 _ rfl
      have a2 : wr.cell? ⟨b, oo + k * 5 + 2, none⟩ = some (.int .i64 xl) := h1 2 _ rfl
      have a3 : wr.cell? ⟨b, oo + k * 5 + 3, none⟩ = some (.int .i64 xh) := h1 3 _ rfl
      have a4 : wr.cell? ⟨b, oo + k * 5 + 4, none⟩ = some (.slice xA xn xc) := h1 4 _ rfl
      clear h1
      have HCy : Hid (∀ (w' : World), Below wr.heap.size wr w' → Calls Try.prog 109 #[.agg #[.int .i64 xo, .int .i64 xm, .int .i64 xl, .int .i64 xh, .slice xA xn xc], .pointer (some cap)] w' fun e w'' => e = .returned (.bool fx) ∧ Below wr.heap.size wr w'') := HCx
      clear HCx
      cases fx
      · go_wp2_with (go_at_call 109; refine (HCy.out _ (Below.refl _ _)).mono ?_; rintro e w1 ⟨rfl, hb1⟩)
        go_roundw
        case rel => exact ⟨k + 1, by omega, by go_num, HX.out (by simp), hb.trans (hb1.mono hb.size)⟩
        case measure => simp [intOf]; omega
      · go_wp2_with (go_at_call 109; refine (HCy.out _ (Below.refl _ _)).mono ?_; rintro e w1 ⟨rfl, hb1⟩)
        go_ret
        exact ⟨⟨k, rfl, fun _ => HXA.out (by simp), fun _ => by omega⟩, hb.trans (hb1.mono hb.size)⟩
    · have hfin := hide (any_none (f := p) HA.out (by have := HT.out.2.2; omega))
      go_wp2_with fail
      go_ret
      exact ⟨⟨-1, rfl, fun h => by omega, fun h => by
        first
          | (rw [hfin.out] at h; cases h)
          | (obtain ⟨x, hx, hp⟩ := h; exact absurd hp (List.any_eq_false.1 hfin.out x hx))⟩, hb⟩

set_option maxHeartbeats 2000000 in
set_option maxRecDepth 100000 in
theorem containsFunc_kid (cap : Addr) (A : Option Addr) (n c : Nat) (l : List Tst) (p : Tst → Bool) (w : World) (hn : l.length = n) (hnb : n ≤ 100000000000000) (hr : Rd w 5 Tst.cells A l)
    (hF : ∀ x ∈ l, ∀ w', Below w.heap.size w w' → Calls Try.prog 109 #[x.val, .pointer (some cap)] w' fun e w'' => e = .returned (.bool (p x)) ∧ Below w'.heap.size w' w'') :
    Calls Try.prog 107 #[.slice A n c, .func (.func 109) #[] #[.pointer (some cap)]] w fun e w' => e = .returned (.bool (l.any p)) ∧ Below w.heap.size w w' := by
  have HI := hide (indexFunc_kid cap A n c l p w hn hnb hr hF)
  clear hr hF hn
  go_enter Try.func107, Try.ntmps107
  go_wp2_with (go_at_call 124; refine HI.out.mono ?_; rintro e w1 ⟨⟨r, rfl, hr⟩, hb⟩; have HR := hide hr; clear hr)
  go_ret
  refine ⟨?_, hb⟩
  have h := HR.out
  cases hp : l.any p
  · rw [hp] at h
    have : ¬ 0 ≤ r := fun h0 => by have := h.1 h0; cases this
    rw [show (false : Bool) = decide (0 ≤ r) from (decide_eq_false this).symm]
    rfl
  · rw [hp] at h
    rw [show (true : Bool) = decide (0 ≤ r) from (decide_eq_true (h.2 rfl)).symm]
    rfl

set_option maxHeartbeats 2000000 in
set_option maxRecDepth 100000 in
/-- HF: what the function answers of each element, in every world not below w. -/
theorem indexFunc_nkid (cap : Addr) (A : Option Addr) (n c : Nat) (l : List Tst) (p : Tst → Bool) (w : World) (hn : l.length = n) (hnb : n ≤ 100000000000000) (hr : Rd w 5 Tst.cells A l)
    (hF : ∀ x ∈ l, ∀ w', Below w.heap.size w w' → Calls Try.prog 110 #[x.val, .pointer (some cap)] w' fun e w'' => e = .returned (.bool (p x)) ∧ Below w'.heap.size w' w'') :
    Calls Try.prog 124 #[.slice A n c, .func (.func 110) #[] #[.pointer (some cap)]] w fun e w' => (∃ r : Int, e = .returned (.int .i64 r) ∧ (0 ≤ r ↔ l.any p = true)) ∧ Below w.heap.size w w' := by
  have HT := hide (And.intro hr (And.intro hF hn))
  clear hr hF hn
  go_enter Try.func124, Try.ntmps124
  go_wp2_with fail
  go_loopw [8] (IfRel (fun t => !p t) l n w) (fun v _ => n - (intOf v).toNat)
  case atStart => exact ⟨0, by omega, rfl, fun y hy => by simp at hy, Below.refl _ _⟩
  case round =>
    obtain ⟨k, hk, rfl, hall, hb⟩ := hrel
    have HA := hide hall
    clear hall
    by_cases hlt : k < n
    · obtain ⟨b, oo, x, rfl, hx, hm, h1⟩ := (HT.out.1.keep hb).at_ (k := k) (by have := HT.out.2.2; omega)
      have hki : (k : Int) < n := by omega
      have HX := hide (fun h => all_upto (f := fun t => !p t) HA.out hx h)
      have HXA := hide (fun h => any_yes (f := p) hm h)
      have HCx := hide (fun (w' : World) (hb' : Below wr.heap.size wr w') => calls_from hb' (HT.out.2.1 x hm w' (hb.trans (hb'.mono hb.size))))
      obtain ⟨fx, hfx⟩ : ∃ fx, fx = p x := ⟨_, rfl⟩
      simp only [← hfx] at HX HXA HCx
      clear hfx hx hm
      obtain ⟨xo, xm, xl, xh, xA, xn, xc, xk⟩ := x
      have a0 : wr.cell? ⟨b, oo + k * 5, none⟩ = some (.int .i64 xo) := h1 0 _ rfl
      have a1 : wr.cell? ⟨b, oo + k * 5 + 1, none⟩ = some (.int .i64 xm) := h1 1 _ rfl
      have a2 : wr.cell? ⟨b, oo + k * 5 + 2, none⟩ = some (.int .i64 xl) := h1 2 _ rfl
      have a3 : wr.cell? ⟨b, oo + k * 5 + 3, none⟩ = some (.int .i64 xh) := h1 3 _ rfl
      have a4 : wr.cell? ⟨b, oo + k * 5 + 4, none⟩ = some (.slice xA xn xc) := h1 4 _ rfl
      clear h1
      have HCy : Hid (∀ (w' : World), Below wr.heap.size wr w' → Calls Try.prog 110 #[.agg #[.int .i64 xo, .int .i64 xm, .int .i64 xl, .int .i64 xh, .slice xA xn xc], .pointer (some cap)] w' fun e w'' => e = .returned (.bool fx) ∧ Below wr.heap.size wr w'') := HCx
      clear HCx
      cases fx
      · go_wp2_with (go_at_call 110; refine (HCy.out _ (Below.refl _ _)).mono ?_; rintro e w1 ⟨rfl, hb1⟩)
        go_roundw
        case rel => exact ⟨k + 1, by omega, by go_num, HX.out (by simp), hb.trans (hb1.mono hb.size)⟩
        case measure => simp [intOf]; omega
      · go_wp2_with (go_at_call 110; refine (HCy.out _ (Below.refl _ _)).mono ?_; rintro e w1 ⟨rfl, hb1⟩)
        go_ret
        exact ⟨⟨k, rfl, fun _ => HXA.out (by simp), fun _ => by omega⟩, hb.trans (hb1.mono hb.size)⟩
    · have hfin := hide (any_none (f := p) HA.out (by have := HT.out.2.2; omega))
      go_wp2_with fail
      go_ret
      exact ⟨⟨-1, rfl, fun h => by omega, fun h => by
        first
          | (rw [hfin.out] at h; cases h)
          | (obtain ⟨x, hx, hp⟩ := h; exact absurd hp (List.any_eq_false.1 hfin.out x hx))⟩, hb⟩

set_option maxHeartbeats 2000000 in
set_option maxRecDepth 100000 in
theorem containsFunc_nkid (cap : Addr) (A : Option Addr) (n c : Nat) (l : List Tst) (p : Tst → Bool) (w : World) (hn : l.length = n) (hnb : n ≤ 100000000000000) (hr : Rd w 5 Tst.cells A l)
    (hF : ∀ x ∈ l, ∀ w', Below w.heap.size w w' → Calls Try.prog 110 #[x.val, .pointer (some cap)] w' fun e w'' => e = .returned (.bool (p x)) ∧ Below w'.heap.size w' w'') :
    Calls Try.prog 107 #[.slice A n c, .func (.func 110) #[] #[.pointer (some cap)]] w fun e w' => e = .returned (.bool (l.any p)) ∧ Below w.heap.size w w' := by
  have HI := hide (indexFunc_nkid cap A n c l p w hn hnb hr hF)
  clear hr hF hn
  go_enter Try.func107, Try.ntmps107
  go_wp2_with (go_at_call 124; refine HI.out.mono ?_; rintro e w1 ⟨⟨r, rfl, hr⟩, hb⟩; have HR := hide hr; clear hr)
  go_ret
  refine ⟨?_, hb⟩
  have h := HR.out
  cases hp : l.any p
  · rw [hp] at h
    have : ¬ 0 ≤ r := fun h0 => by have := h.1 h0; cases this
    rw [show (false : Bool) = decide (0 ≤ r) from (decide_eq_false this).symm]
    rfl
  · rw [hp] at h
    rw [show (true : Bool) = decide (0 ≤ r) from (decide_eq_true (h.2 rfl)).symm]
    rfl

set_option maxHeartbeats 1000000 in
set_option maxRecDepth 100000 in
theorem refHolds1_any (b : Bool) (t : Tst) (x : Int) (cap : Addr) (w : World) (hc : w.cell? cap = some (.int .u64 x)) (ih : ∀ w', Below w.heap.size w w' → Calls Try.prog 68 #[t.val, .int .u64 x] w' fun e w'' => e = .returned (.bool b) ∧ Below w'.heap.size w' w'') :
    Calls Try.prog 109 #[t.val, .pointer (some cap)] w fun e w' => e = .returned (.bool b) ∧ Below w.heap.size w w' := by
  have HI := hide (fun (w' : World) (hb' : Below w.heap.size w w') => calls_from hb' (ih w' hb'))
  have hcl : cap.block < w.heap.size := World.block_lt_of_cell? w cap hc
  clear ih
  obtain ⟨cb, co, cs⟩ := cap
  obtain rfl : cs = none := World.cell?_spot hc
  obtain ⟨o, m, lo, hi, A, n, c, l⟩ := t
  have HJ : Hid (∀ (w' : World), Below w.heap.size w w' → Calls Try.prog 68 #[.agg #[.int .i64 o, .int .i64 m, .int .i64 lo, .int .i64 hi, .slice A n c], .int .u64 x] w' fun e w'' => e = .returned (.bool b) ∧ Below w.heap.size w w'') := HI
  clear HI
  show Calls Try.prog 109 #[.agg #[.int .i64 o, .int .i64 m, .int .i64 lo, .int .i64 hi, .slice A n c], .pointer (some ⟨cb, co, none⟩)] w _
  go_enter Try.func109, Try.ntmps109
  go_wp2_with (go_at_call 68; refine (HJ.out _ (Below.alloc (Below.refl _ _) (Nat.le_refl _) _)).mono ?_; rintro e w1 ⟨rfl, hb1⟩)
  go_ret
  exact ⟨rfl, hb1⟩

set_option maxHeartbeats 1000000 in
set_option maxRecDepth 100000 in
theorem refHolds2_any (b : Bool) (t : Tst) (x : Int) (cap cap2 : Addr) (w : World) (hc : w.cell? cap = some (.int .u64 x)) (hc2 : w.cell? cap2 = some (.func (.func 109) #[] #[.pointer (some cap)])) (ih : ∀ w', Below w.heap.size w w' → Calls Try.prog 68 #[t.val, .int .u64 x] w' fun e w'' => e = .returned (.bool b) ∧ Below w'.heap.size w' w'') :
    Calls Try.prog 110 #[t.val, .pointer (some cap2)] w fun e w' => e = .returned (.bool (!b)) ∧ Below w.heap.size w w' := by
  have HI := hide (fun (w' : World) (hb' : Below w.heap.size w w') => calls_from hb' (refHolds1_any b t x cap w' (keept hb' hc) (fun w2 hb2 => ih w2 (hb'.trans (hb2.mono hb'.size)))))
  have hcl : cap2.block < w.heap.size := World.block_lt_of_cell? w cap2 hc2
  clear ih hc
  obtain ⟨cb, co, cs⟩ := cap2
  obtain rfl : cs = none := World.cell?_spot hc2
  obtain ⟨o, m, lo, hi, A, n, c, l⟩ := t
  have HJ : Hid (∀ (w' : World), Below w.heap.size w w' → Calls Try.prog 109 #[.agg #[.int .i64 o, .int .i64 m, .int .i64 lo, .int .i64 hi, .slice A n c], .pointer (some cap)] w' fun e w'' => e = .returned (.bool b) ∧ Below w.heap.size w w'') := HI
  clear HI
  show Calls Try.prog 110 #[.agg #[.int .i64 o, .int .i64 m, .int .i64 lo, .int .i64 hi, .slice A n c], .pointer (some ⟨cb, co, none⟩)] w _
  go_enter Try.func110, Try.ntmps110
  go_wp2_with (go_at_call 109; refine (HJ.out _ (Below.alloc (Below.refl _ _) (Nat.le_refl _) _)).mono ?_; rintro e w1 ⟨rfl, hb1⟩)
  go_ret
  exact ⟨rfl, hb1⟩

set_option maxHeartbeats 2000000 in
set_option maxRecDepth 100000 in
theorem refHolds_any : ∀ (N : Nat) (t : Tst) (y : Int) (w : World), TR w N t → Right N t → 0 ≤ y → y < 18446744073709551616 → Calls Try.prog 68 #[t.val, .int .u64 y] w fun e w' => e = .returned (.bool (hldN N t y)) ∧ Below w.heap.size w w'
  | 0, _, _, _, h, _, _, _ => by simp [TR] at h
  | N + 1, .mk o m lo hi A n c l, y, w, h, hr0, hy0, hy1 => by
    obtain ⟨h1, h2, h3, h4, hn, hsl, hr, hk⟩ := h
    obtain ⟨hop, hkr, hrg⟩ := right_kids hr0 hn
    have hnb : n ≤ 100000000000000 := by have := hsl.nc; have := hsl.cb; omega
    have HC1 := hide (fun (w' : World) (hb' : Below w.heap.size w w') (cap : Addr) (hc : w'.cell? cap = some (.int .u64 y)) => calls_from hb' (containsFunc_kid cap A n c l (fun k => hldN N k y) w' hn hnb (hr.keep hb') (fun x hx w2 hb2 =>
      refHolds1_any _ x y cap w2 (keept hb2 hc) (fun w3 hb3 => refHolds_any N x y w3 ((((hk x hx).keep hb').keep hb2).keep hb3) (hkr x hx) hy0 hy1))))
    have HC2 := hide (fun (w' : World) (hb' : Below w.heap.size w w') (cap cap2 : Addr) (hc : w'.cell? cap = some (.int .u64 y)) (hc2 : w'.cell? cap2 = some (.func (.func 109) #[] #[.pointer (some cap)])) => calls_from hb' (containsFunc_nkid cap2 A n c l (fun k => !hldN N k y) w' hn hnb (hr.keep hb') (fun x hx w2 hb2 =>
      refHolds2_any _ x y cap cap2 w2 (keept hb2 hc) (keept hb2 hc2) (fun w3 hb3 => refHolds_any N x y w3 ((((hk x hx).keep hb').keep hb2).keep hb3) (hkr x hx) hy0 hy1))))
    clear hr hk hn h1 h2 h3 h4 hsl hr0 hkr
    obtain ⟨R, hR⟩ : ∃ R, R = hldN (N + 1) (.mk o m lo hi A n c l) y := ⟨_, rfl⟩
    rw [← hR]
    simp only [hldN] at hR
    have hmf : ∀ (fn : Fn) (first cap : Array Value) (w : World), (Instr.makeFunc fn first cap).run Try.prog w = .ok (.func fn first cap) w := fun _ _ _ _ => rfl
    rcases hop with rfl | rfl | rfl | rfl
    · have hR1 : R = ragH m lo hi y := by rw [hR]; simp
      have HR := hide hR1
      have hg := of_decide_eq_true (hrg rfl)
      clear hR hR1 hrg HC1 HC2
      obtain ⟨hm, hl0, hl1, hl2⟩ := hg
      have hlb : lo ≤ 1000000000 := by omega
      have hhb : 0 ≤ hi := by omega
      by_cases hm0 : m = 0
      · subst hm0
        have HV : Hid (R = (decide (lo ≤ y) && decide (y ≤ hi))) := by
          show R = _
          rw [HR.out, ragH]; simp
        clear HR hm
        by_cases c1 : lo ≤ y
        · by_cases c2 : y ≤ hi
          · show Calls Try.prog 68 #[.agg #[.int .i64 1, .int .i64 0, .int .i64 lo, .int .i64 hi, .slice A n c], .int .u64 y] w _
            go_enter Try.func68, Try.ntmps68
            go_wp2_with fail
            go_ret
            exact ⟨by rw [HV.out, decide_eq_true (by omega), decide_eq_true (by omega)]; rfl, below3 _ _ _ _⟩
          · show Calls Try.prog 68 #[.agg #[.int .i64 1, .int .i64 0, .int .i64 lo, .int .i64 hi, .slice A n c], .int .u64 y] w _
            go_enter Try.func68, Try.ntmps68
            go_wp2_with fail
            go_ret
            exact ⟨by rw [HV.out, decide_eq_true (by omega), decide_eq_false (by omega)]; rfl, below3 _ _ _ _⟩
        · show Calls Try.prog 68 #[.agg #[.int .i64 1, .int .i64 0, .int .i64 lo, .int .i64 hi, .slice A n c], .int .u64 y] w _
          go_enter Try.func68, Try.ntmps68
          go_wp2_with fail
          go_ret
          exact ⟨by rw [HV.out, decide_eq_false (by omega)]; rfl, below3 _ _ _ _⟩
      · have hm1 : 2 ≤ m := by omega
        have hm2 : m ≤ 1000000 := by omega
        have hm0' : (m != 0) = true := by simpa using hm0
        obtain ⟨q, hq⟩ : ∃ q, q = y % m := ⟨_, rfl⟩
        have HV : Hid (R = (decide (lo ≤ q) && decide (q ≤ hi))) := by
          show R = _
          rw [HR.out, ragH, if_neg hm0, ← hq]; simp
        have HQ := hide hq
        clear HR hm hq
        show Calls Try.prog 68 #[.agg #[.int .i64 1, .int .i64 m, .int .i64 lo, .int .i64 hi, .slice A n c], .int .u64 y] w _
        go_enter Try.func68, Try.ntmps68
        go_wp2_with fail
        · go_ret
          refine ⟨?_, below3 _ _ _ _⟩
          rw [HV.out, HQ.out, decide_eq_true (p := lo ≤ y % m) (by first | assumption | omega)]
          rfl
        · go_ret
          refine ⟨?_, below3 _ _ _ _⟩
          rw [HV.out, HQ.out, decide_eq_false (p := lo ≤ y % m) (by first | assumption | omega)]
          rfl
    · have hR1 : R = l.all (fun k => hldN N k y) := by rw [hR]; simp
      have HR := hide hR1
      clear hR hR1 hrg
      show Calls Try.prog 68 #[.agg #[.int .i64 2, .int .i64 m, .int .i64 lo, .int .i64 hi, .slice A n c], .int .u64 y] w _
      go_enter Try.func68, Try.ntmps68
      go_wp2_with (go_at_call 107; refine (HC2.out _ (below3 _ _ _ _) ⟨w.heap.size + 1, 0, none⟩ _ ((World.cell?_alloc_past _ _ _ (by simp)).trans ((World.cell?_alloc_at _ _ _ _ (by simp)).trans rfl)) ((World.cell?_alloc_at _ _ _ _ (by simp)).trans rfl)).mono ?_; rintro e w1 ⟨rfl, hb1⟩)
      go_ret
      exact ⟨by rw [HR.out, List.all_eq_not_any_not]; rfl, hb1⟩
    · have hR1 : R = l.any (fun k => hldN N k y) := by rw [hR]; simp
      have HR := hide hR1
      clear hR hR1 hrg
      show Calls Try.prog 68 #[.agg #[.int .i64 3, .int .i64 m, .int .i64 lo, .int .i64 hi, .slice A n c], .int .u64 y] w _
      go_enter Try.func68, Try.ntmps68
      go_wp2_with (go_at_call 107; refine (HC1.out _ (below3 _ _ _ _) _ ((World.cell?_alloc_past _ _ _ (by simp)).trans ((World.cell?_alloc_at _ _ _ _ (by simp)).trans rfl))).mono ?_; rintro e w1 ⟨rfl, hb1⟩)
      go_ret
      exact ⟨by rw [HR.out]; rfl, hb1⟩
    · have hR1 : R = l.all (fun k => !hldN N k y) := by rw [hR]; simp
      have HR := hide hR1
      clear hR hR1 hrg
      show Calls Try.prog 68 #[.agg #[.int .i64 4, .int .i64 m, .int .i64 lo, .int .i64 hi, .slice A n c], .int .u64 y] w _
      go_enter Try.func68, Try.ntmps68
      go_wp2_with (go_at_call 107; refine (HC1.out _ (below3 _ _ _ _) _ ((World.cell?_alloc_past _ _ _ (by simp)).trans ((World.cell?_alloc_at _ _ _ _ (by simp)).trans rfl))).mono ?_; rintro e w1 ⟨rfl, hb1⟩)
      go_ret
      exact ⟨by rw [HR.out, List.all_eq_not_any_not]; simp, hb1⟩
end Go.Proofs.Ytkldjnopapipfaa
