/-
  lang.magnitude, the reference's sizeOfInt: a number without its sign.
-/
import Derived.Test.YtkldjnopapipfaaRule3
import Derived.Deep.RegionHeld3
import Derived.Deep.DrawnRows
namespace Go.Proofs.Ytkldjnopapipfaa
open Go.RowKit
set_option linter.unusedVariables false
attribute [local go_sem ↓] Go.wp_at_zero Go.wp_at_succ

def mag (n : Int) : Int := if n < 0 then -n else n

set_option maxRecDepth 100000 in
theorem magnitude_any (n : Int) (h : In64 n) (w : World) : Calls Try.prog 106 #[.int .i64 n] w fun e w' => e = .returned (.int .u64 (mag n)) ∧ w' = w := by
  obtain ⟨h0, h1⟩ := h
  by_cases hn : n < 0
  · have HM := hide (show mag n = -n from if_pos hn)
    go_enter Try.func106, Try.ntmps106
    go_wp2
    go_ret
    refine ⟨?_, rfl⟩
    rw [HM.out]
    show Ending.returned (Value.int .u64 _) = _
    congr 2
    omega
  · have HM := hide (show mag n = n from if_neg hn)
    go_enter Try.func106, Try.ntmps106
    go_wp2
    go_ret
    refine ⟨?_, rfl⟩
    rw [HM.out]
    show Ending.returned (Value.int .u64 _) = _
    congr 2
    try omega

set_option maxRecDepth 100000 in
theorem sizeOfInt_any (n : Int) (h : In64 n) (w : World) : Calls Try.prog 69 #[.int .i64 n] w fun e w' => e = .returned (.int .u64 (mag n)) ∧ w' = w := by
  obtain ⟨h0, h1⟩ := h
  by_cases hn : n < 0
  · have HM := hide (show mag n = -n from if_pos hn)
    go_enter Try.func69, Try.ntmps69
    go_wp2
    go_ret
    refine ⟨?_, rfl⟩
    rw [HM.out]
    show Ending.returned (Value.int .u64 _) = _
    congr 2
    omega
  · have HM := hide (show mag n = n from if_neg hn)
    go_enter Try.func69, Try.ntmps69
    go_wp2
    go_ret
    refine ⟨?_, rfl⟩
    rw [HM.out]
    show Ending.returned (Value.int .u64 _) = _
    congr 2
    try omega

def ragH (m lo hi x : Int) : Bool := decide (lo ≤ (if m = 0 then x else x % m) ∧ (if m = 0 then x else x % m) ≤ hi)
def hldN : Nat → Tst → Int → Bool
  | 0, _, _ => false
  | N + 1, .mk o m lo hi _ _ _ l, x =>
    if o = 2 then l.all (fun k => hldN N k x) else if o = 4 then l.all (fun k => !hldN N k x) else if o = 3 then l.any (fun k => hldN N k x) else ragH m lo hi x
def Right (N : Nat) (t : Tst) : Prop := frmN N t = true ∧ rngN N t = true
theorem right_kids {N : Nat} {o m lo hi : Int} {A : Option Addr} {n c : Nat} {l : List Tst} (h : Right (N + 1) (.mk o m lo hi A n c l)) (hn : l.length = n) :
    (o = 1 ∨ o = 2 ∨ o = 3 ∨ o = 4) ∧ (∀ x ∈ l, Right N x) ∧ (o = 1 → rng m lo hi = true) := by
  obtain ⟨h1, h2⟩ := h
  simp only [frmN] at h1
  simp only [rngN, Bool.and_eq_true, Bool.or_eq_true, List.all_eq_true] at h2
  by_cases ho : o = 1
  · rw [if_pos ho] at h1
    have hl : l = [] := List.eq_nil_of_length_eq_zero (by have := of_decide_eq_true h1; omega)
    refine ⟨.inl ho, fun x hx => (by rw [hl] at hx; cases hx), fun _ => ?_⟩
    rcases h2.2 with h | h
    · exact absurd ho (of_decide_eq_true h)
    · exact h
  · rw [if_neg ho] at h1
    simp only [Bool.and_eq_true, List.all_eq_true] at h1
    refine ⟨.inr (of_decide_eq_true h1.1), fun x hx => ⟨?_, h2.1 x hx⟩, fun h => absurd h ho⟩
    have := h1.2.2.1 x hx
    simp only [okKid, Bool.and_eq_true] at this
    exact this.1

theorem keep6 {w w' : World} {b0 b1 b2 b3 b4 b5 : Addr} {v0 v1 v2 v3 v4 v5 : Value} (hb : Below w.heap.size w w') (h : w.cell? b0 = some v0 ∧ w.cell? b1 = some v1 ∧ w.cell? b2 = some v2 ∧ w.cell? b3 = some v3 ∧ w.cell? b4 = some v4 ∧ w.cell? b5 = some v5) :
    w'.cell? b0 = some v0 ∧ w'.cell? b1 = some v1 ∧ w'.cell? b2 = some v2 ∧ w'.cell? b3 = some v3 ∧ w'.cell? b4 = some v4 ∧ w'.cell? b5 = some v5 :=
  ⟨keept hb h.1, keept hb h.2.1, keept hb h.2.2.1, keept hb h.2.2.2.1, keept hb h.2.2.2.2.1, keept hb h.2.2.2.2.2⟩
def HldRel (f : Tst → Bool) (l : List Tst) (n : Nat) (w : World) (o m lo hi : Int) (u : Value) (v : Value) (wr : World) : Prop :=
  ∃ k : Nat, k ≤ n ∧ v = .int .i64 k ∧ (∀ y ∈ l.take k, f y = true) ∧ OwnT w wr o m lo hi u
theorem any_none {α : Type} {f : α → Bool} {l : List α} {k : Nat} (h : ∀ y ∈ l.take k, (!f y) = true) (hk : l.length ≤ k) : l.any f = false := by
  rw [List.take_of_length_le hk] at h
  rw [List.any_eq_false]
  intro x hx
  have := h x hx
  simpa using this
theorem any_yes {α : Type} {f : α → Bool} {l : List α} {x : α} (hx : x ∈ l) (hf : f x = true) : l.any f = true := List.any_eq_true.2 ⟨x, hx, hf⟩

set_option maxHeartbeats 2000000 in
set_option maxRecDepth 100000 in
theorem holds_any : ∀ (N : Nat) (t : Tst) (y : Int) (w : World), TR w N t → Right N t → 0 ≤ y → y < 18446744073709551616 → Calls Try.prog 105 #[t.val, .int .u64 y] w fun e w' => e = .returned (.bool (hldN N t y)) ∧ Below w.heap.size w w'
  | 0, _, _, _, h, _, _, _ => by simp [TR] at h
  | N + 1, .mk o m lo hi A n c l, y, w, h, hr0, hy0, hy1 => by
    obtain ⟨h1, h2, h3, h4, hn, hsl, hr, hk⟩ := h
    obtain ⟨hop, hkr, hrg⟩ := right_kids hr0 hn
    have HC : Hid (∀ x w', x ∈ l → TR w' N x → Calls Try.prog 105 #[x.val, .int .u64 y] w' fun e w'' => e = .returned (.bool (hldN N x y)) ∧ Below w'.heap.size w' w'') := fun x w' hx hr => holds_any N x y w' hr (hkr x hx) hy0 hy1
    have hnb : n ≤ 100000000000000 := by have := hsl.nc; have := hsl.cb; omega
    have HT := hide (And.intro (show True from trivial) (And.intro hr (And.intro hk hn)))
    clear hr hk hn h1 h2 h3 h4 hsl hr0 hkr
    obtain ⟨R, hR⟩ : ∃ R, R = hldN (N + 1) (.mk o m lo hi A n c l) y := ⟨_, rfl⟩
    rw [← hR]
    simp only [hldN] at hR
    rcases hop with rfl | rfl | rfl | rfl
    · have hR1 : R = ragH m lo hi y := by rw [hR]; simp
      have HR := hide hR1
      have hg := of_decide_eq_true (hrg rfl)
      clear hR hR1 hrg
      obtain ⟨hm, hl0, hl1, hl2⟩ := hg
      have hlb : lo ≤ 1000000000 := by omega
      have hhb : 0 ≤ hi := by omega
      by_cases hm0 : m = 0
      · subst hm0
        have HV : Hid (R = (decide (lo ≤ y) && decide (y ≤ hi))) := by
          show R = _
          rw [HR.out, ragH]; simp
        clear HR hm
        by_cases c1 : lo ≤ y
        · by_cases c2 : y ≤ hi
          · show Calls Try.prog 105 #[.agg #[.int .i64 1, .int .i64 0, .int .i64 lo, .int .i64 hi, .slice A n c], .int .u64 y] w _
            go_enter Try.func105, Try.ntmps105
            go_wp2_with fail
            go_ret
            exact ⟨by rw [HV.out, decide_eq_true (by omega), decide_eq_true (by omega)]; rfl, Below.alloc (Below.refl _ _) (Nat.le_refl _) _⟩
          · show Calls Try.prog 105 #[.agg #[.int .i64 1, .int .i64 0, .int .i64 lo, .int .i64 hi, .slice A n c], .int .u64 y] w _
            go_enter Try.func105, Try.ntmps105
            go_wp2_with fail
            go_ret
            exact ⟨by rw [HV.out, decide_eq_true (by omega), decide_eq_false (by omega)]; rfl, Below.alloc (Below.refl _ _) (Nat.le_refl _) _⟩
        · show Calls Try.prog 105 #[.agg #[.int .i64 1, .int .i64 0, .int .i64 lo, .int .i64 hi, .slice A n c], .int .u64 y] w _
          go_enter Try.func105, Try.ntmps105
          go_wp2_with fail
          go_ret
          exact ⟨by rw [HV.out, decide_eq_false (by omega)]; rfl, Below.alloc (Below.refl _ _) (Nat.le_refl _) _⟩
      · have hm1 : 2 ≤ m := by omega
        have hm2 : m ≤ 1000000 := by omega
        have hm0' : (m != 0) = true := by simpa using hm0
        obtain ⟨q, hq⟩ : ∃ q, q = y % m := ⟨_, rfl⟩
        have HV : Hid (R = (decide (lo ≤ q) && decide (q ≤ hi))) := by
          show R = _
          rw [HR.out, ragH, if_neg hm0, ← hq]; simp
        have HQ := hide hq
        clear HR hm hq
        show Calls Try.prog 105 #[.agg #[.int .i64 1, .int .i64 m, .int .i64 lo, .int .i64 hi, .slice A n c], .int .u64 y] w _
        go_enter Try.func105, Try.ntmps105
        go_wp2_with fail
        · go_ret
          refine ⟨?_, Below.alloc (Below.refl _ _) (Nat.le_refl _) _⟩
          rw [HV.out, HQ.out, decide_eq_true (p := lo ≤ y % m) (by first | assumption | omega)]
          rfl
        · go_ret
          refine ⟨?_, Below.alloc (Below.refl _ _) (Nat.le_refl _) _⟩
          rw [HV.out, HQ.out, decide_eq_false (p := lo ≤ y % m) (by first | assumption | omega)]
          rfl
    · have hR1 : R = l.all (fun k => hldN N k y) := by rw [hR]; simp
      have HR := hide hR1
      clear hR hR1 hrg
      show Calls Try.prog 105 #[.agg #[.int .i64 2, .int .i64 m, .int .i64 lo, .int .i64 hi, .slice A n c], .int .u64 y] w _
      go_enter Try.func105, Try.ntmps105
      go_wp2_with fail
      go_loopw [17] (HldRel (fun k => hldN N k y) l n w 2 m lo hi (.slice A n c)) (fun v _ => n - (intOf v).toNat)
      case atStart => exact ⟨0, by omega, rfl, fun y hy => by simp at hy, OwnT.start _ _ _ _ _ _ _⟩
      case round =>
        obtain ⟨k, hk, rfl, hall, hO⟩ := hrel
        have HA := hide hall
        have HO := hide hO
        have hb := hO.below
        have s0 := hO.s0
        have hwl : w.heap.size < wr.heap.size := World.block_lt_of_cell? wr _ s0
        clear hall hO
        by_cases hlt : k < n
        · obtain ⟨_, hrd, hkr, hln⟩ := HT.out
          obtain ⟨b, oo, x, rfl, hx, hm, h1⟩ := (hrd.keep hb).at_ (k := k) (by omega)
          have hxr := (hkr x hm).keep hb
          have hki : (k : Int) < n := by omega
          have HX := hide (fun h => all_upto (f := fun k => hldN N k y) HA.out hx h)
          have HM := hide hm
          have HCx := hide (fun (w' : World) (hb' : Below wr.heap.size wr w') => HC.out x w' hm (hxr.keep hb'))
          have HXV := hide (fun b (h : hldN N x y = b) => (⟨hm, h⟩ : x ∈ l ∧ hldN N x y = b))
          obtain ⟨fx, hfx⟩ : ∃ fx, fx = hldN N x y := ⟨_, rfl⟩
          rw [← hfx] at HCx
          have HF := hide hfx
          have HEX : Hid (∃ z, z ∈ l ∧ hldN N z y = fx ∧ (∀ h : (fun k => hldN N k y) z = true, ∀ q ∈ l.take (k + 1), (fun k => hldN N k y) q = true)) := ⟨x, hm, hfx.symm, fun h => HX.out h⟩
          clear hfx HX HM HXV HF
          clear hrd hkr hln hx hm hxr
          obtain ⟨xo, xm, xl, xh, xA, xn, xc, xk⟩ := x
          have a0 : wr.cell? ⟨b, oo + k * 5, none⟩ = some (.int .i64 xo) := h1 0 _ rfl
          have a1 : wr.cell? ⟨b, oo + k * 5 + 1, none⟩ = some (.int .i64 xm) := h1 1 _ rfl
          have a2 : wr.cell? ⟨b, oo + k * 5 + 2, none⟩ = some (.int .i64 xl) := h1 2 _ rfl
          have a3 : wr.cell? ⟨b, oo + k * 5 + 3, none⟩ = some (.int .i64 xh) := h1 3 _ rfl
          have a4 : wr.cell? ⟨b, oo + k * 5 + 4, none⟩ = some (.slice xA xn xc) := h1 4 _ rfl
          clear h1
          have HCy : Hid (∀ (w' : World), Below wr.heap.size wr w' → Calls Try.prog 105 #[.agg #[.int .i64 xo, .int .i64 xm, .int .i64 xl, .int .i64 xh, .slice xA xn xc], .int .u64 y] w' fun e w'' => e = .returned (.bool fx) ∧ Below w'.heap.size w' w'') := HCx
          clear HCx
          cases fx
          · go_wp2_with fail
            go_region_held3 (fun w' => w'.cell? ⟨wr.heap.size, 0, none⟩ = some (.int .i64 xo) ∧ w'.cell? ⟨wr.heap.size, 1, none⟩ = some (.int .i64 xm) ∧ w'.cell? ⟨wr.heap.size, 2, none⟩ = some (.int .i64 xl) ∧ w'.cell? ⟨wr.heap.size, 3, none⟩ = some (.int .i64 xh) ∧ w'.cell? ⟨wr.heap.size, 4, none⟩ = some (.slice xA xn xc) ∧ w'.cell? ⟨w.heap.size, 0, none⟩ = some (.int .i64 2)) (first | go_keep | exact keep6 hb1 (by assumption))
              ((go_at_call 105; refine (HCy.out _ (Below.drew (Below.alloc (Below.refl _ _) (Nat.le_refl _) _))).mono ?_; rintro e w1 ⟨rfl, hb1⟩))
            rename_i hS
            clear hS
            have HK := hide (HO.out.keep ((Below.drew (Below.alloc (Below.refl _ _) (Nat.le_refl _) _)).trans (hb1.mono (by simp))))
            go_wp2_with fail
            go_ret
            obtain ⟨z, hz1, hz2, _⟩ := HEX.out
            exact ⟨by rw [HR.out, all_not hz1 (by simp [hz2])]; rfl, HK.out.below⟩
          · go_wp2_with fail
            go_region_held3 (fun w' => w'.cell? ⟨wr.heap.size, 0, none⟩ = some (.int .i64 xo) ∧ w'.cell? ⟨wr.heap.size, 1, none⟩ = some (.int .i64 xm) ∧ w'.cell? ⟨wr.heap.size, 2, none⟩ = some (.int .i64 xl) ∧ w'.cell? ⟨wr.heap.size, 3, none⟩ = some (.int .i64 xh) ∧ w'.cell? ⟨wr.heap.size, 4, none⟩ = some (.slice xA xn xc) ∧ w'.cell? ⟨w.heap.size, 0, none⟩ = some (.int .i64 2)) (first | go_keep | exact keep6 hb1 (by assumption))
              ((go_at_call 105; refine (HCy.out _ (Below.drew (Below.alloc (Below.refl _ _) (Nat.le_refl _) _))).mono ?_; rintro e w1 ⟨rfl, hb1⟩))
            rename_i hS
            clear hS
            have HK := hide (HO.out.keep ((Below.drew (Below.alloc (Below.refl _ _) (Nat.le_refl _) _)).trans (hb1.mono (by simp))))
            go_wp2_with fail
            go_roundw
            case rel =>
              obtain ⟨z, hz1, hz2, hz3⟩ := HEX.out
              exact ⟨k + 1, by omega, by go_num, hz3 (by simp [hz2]), HK.out⟩
            case measure => simp [intOf]; omega
        · have hfin := hide (show R = true by rw [HR.out]; exact all_full HA.out (by have := HT.out.2.2.2; omega))
          go_wp2_with fail
          go_ret
          exact ⟨by rw [hfin.out]; rfl, hb⟩
    · have hR1 : R = l.any (fun k => hldN N k y) := by rw [hR]; simp
      have HR := hide hR1
      clear hR hR1 hrg
      show Calls Try.prog 105 #[.agg #[.int .i64 3, .int .i64 m, .int .i64 lo, .int .i64 hi, .slice A n c], .int .u64 y] w _
      go_enter Try.func105, Try.ntmps105
      go_wp2_with fail
      go_loopw [34] (HldRel (fun k => !hldN N k y) l n w 3 m lo hi (.slice A n c)) (fun v _ => n - (intOf v).toNat)
      case atStart => exact ⟨0, by omega, rfl, fun y hy => by simp at hy, OwnT.start _ _ _ _ _ _ _⟩
      case round =>
        obtain ⟨k, hk, rfl, hall, hO⟩ := hrel
        have HA := hide hall
        have HO := hide hO
        have hb := hO.below
        have s0 := hO.s0
        have hwl : w.heap.size < wr.heap.size := World.block_lt_of_cell? wr _ s0
        clear hall hO
        by_cases hlt : k < n
        · obtain ⟨_, hrd, hkr, hln⟩ := HT.out
          obtain ⟨b, oo, x, rfl, hx, hm, h1⟩ := (hrd.keep hb).at_ (k := k) (by omega)
          have hxr := (hkr x hm).keep hb
          have hki : (k : Int) < n := by omega
          have HX := hide (fun h => all_upto (f := fun k => !hldN N k y) HA.out hx h)
          have HM := hide hm
          have HCx := hide (fun (w' : World) (hb' : Below wr.heap.size wr w') => HC.out x w' hm (hxr.keep hb'))
          have HXV := hide (fun b (h : hldN N x y = b) => (⟨hm, h⟩ : x ∈ l ∧ hldN N x y = b))
          obtain ⟨fx, hfx⟩ : ∃ fx, fx = hldN N x y := ⟨_, rfl⟩
          rw [← hfx] at HCx
          have HF := hide hfx
          have HEX : Hid (∃ z, z ∈ l ∧ hldN N z y = fx ∧ (∀ h : (fun k => !hldN N k y) z = true, ∀ q ∈ l.take (k + 1), (fun k => !hldN N k y) q = true)) := ⟨x, hm, hfx.symm, fun h => HX.out h⟩
          clear hfx HX HM HXV HF
          clear hrd hkr hln hx hm hxr
          obtain ⟨xo, xm, xl, xh, xA, xn, xc, xk⟩ := x
          have a0 : wr.cell? ⟨b, oo + k * 5, none⟩ = some (.int .i64 xo) := h1 0 _ rfl
          have a1 : wr.cell? ⟨b, oo + k * 5 + 1, none⟩ = some (.int .i64 xm) := h1 1 _ rfl
          have a2 : wr.cell? ⟨b, oo + k * 5 + 2, none⟩ = some (.int .i64 xl) := h1 2 _ rfl
          have a3 : wr.cell? ⟨b, oo + k * 5 + 3, none⟩ = some (.int .i64 xh) := h1 3 _ rfl
          have a4 : wr.cell? ⟨b, oo + k * 5 + 4, none⟩ = some (.slice xA xn xc) := h1 4 _ rfl
          clear h1
          have HCy : Hid (∀ (w' : World), Below wr.heap.size wr w' → Calls Try.prog 105 #[.agg #[.int .i64 xo, .int .i64 xm, .int .i64 xl, .int .i64 xh, .slice xA xn xc], .int .u64 y] w' fun e w'' => e = .returned (.bool fx) ∧ Below w'.heap.size w' w'') := HCx
          clear HCx
          cases fx
          · go_wp2_with (go_at_call 105; refine (HCy.out _ (Below.alloc (Below.refl _ _) (Nat.le_refl _) _)).mono ?_; rintro e w1 ⟨rfl, hb1⟩)
            have HK := hide (HO.out.keep ((Below.alloc (Below.refl _ _) (Nat.le_refl _) _).trans (hb1.mono (by simp))))
            go_roundw
            case rel =>
              obtain ⟨z, hz1, hz2, hz3⟩ := HEX.out
              exact ⟨k + 1, by omega, by go_num, hz3 (by simp [hz2]), HK.out⟩
            case measure => simp [intOf]; omega
          · go_wp2_with (go_at_call 105; refine (HCy.out _ (Below.alloc (Below.refl _ _) (Nat.le_refl _) _)).mono ?_; rintro e w1 ⟨rfl, hb1⟩)
            have HK := hide (HO.out.keep ((Below.alloc (Below.refl _ _) (Nat.le_refl _) _).trans (hb1.mono (by simp))))
            go_ret
            obtain ⟨z, hz1, hz2, _⟩ := HEX.out
            exact ⟨by rw [HR.out, any_yes hz1 (by simp [hz2])]; rfl, HK.out.below⟩
        · have hfin := hide (show R = false by rw [HR.out]; exact any_none HA.out (by have := HT.out.2.2.2; omega))
          go_wp2_with fail
          go_ret
          exact ⟨by rw [hfin.out]; rfl, hb⟩
    · have hR1 : R = l.all (fun k => !hldN N k y) := by rw [hR]; simp
      have HR := hide hR1
      clear hR hR1 hrg
      show Calls Try.prog 105 #[.agg #[.int .i64 4, .int .i64 m, .int .i64 lo, .int .i64 hi, .slice A n c], .int .u64 y] w _
      go_enter Try.func105, Try.ntmps105
      go_wp2_with fail
      go_loopw [17] (HldRel (fun k => !hldN N k y) l n w 4 m lo hi (.slice A n c)) (fun v _ => n - (intOf v).toNat)
      case atStart => exact ⟨0, by omega, rfl, fun y hy => by simp at hy, OwnT.start _ _ _ _ _ _ _⟩
      case round =>
        obtain ⟨k, hk, rfl, hall, hO⟩ := hrel
        have HA := hide hall
        have HO := hide hO
        have hb := hO.below
        have s0 := hO.s0
        have hwl : w.heap.size < wr.heap.size := World.block_lt_of_cell? wr _ s0
        clear hall hO
        by_cases hlt : k < n
        · obtain ⟨_, hrd, hkr, hln⟩ := HT.out
          obtain ⟨b, oo, x, rfl, hx, hm, h1⟩ := (hrd.keep hb).at_ (k := k) (by omega)
          have hxr := (hkr x hm).keep hb
          have hki : (k : Int) < n := by omega
          have HX := hide (fun h => all_upto (f := fun k => !hldN N k y) HA.out hx h)
          have HM := hide hm
          have HCx := hide (fun (w' : World) (hb' : Below wr.heap.size wr w') => HC.out x w' hm (hxr.keep hb'))
          have HXV := hide (fun b (h : hldN N x y = b) => (⟨hm, h⟩ : x ∈ l ∧ hldN N x y = b))
          obtain ⟨fx, hfx⟩ : ∃ fx, fx = hldN N x y := ⟨_, rfl⟩
          rw [← hfx] at HCx
          have HF := hide hfx
          have HEX : Hid (∃ z, z ∈ l ∧ hldN N z y = fx ∧ (∀ h : (fun k => !hldN N k y) z = true, ∀ q ∈ l.take (k + 1), (fun k => !hldN N k y) q = true)) := ⟨x, hm, hfx.symm, fun h => HX.out h⟩
          clear hfx HX HM HXV HF
          clear hrd hkr hln hx hm hxr
          obtain ⟨xo, xm, xl, xh, xA, xn, xc, xk⟩ := x
          have a0 : wr.cell? ⟨b, oo + k * 5, none⟩ = some (.int .i64 xo) := h1 0 _ rfl
          have a1 : wr.cell? ⟨b, oo + k * 5 + 1, none⟩ = some (.int .i64 xm) := h1 1 _ rfl
          have a2 : wr.cell? ⟨b, oo + k * 5 + 2, none⟩ = some (.int .i64 xl) := h1 2 _ rfl
          have a3 : wr.cell? ⟨b, oo + k * 5 + 3, none⟩ = some (.int .i64 xh) := h1 3 _ rfl
          have a4 : wr.cell? ⟨b, oo + k * 5 + 4, none⟩ = some (.slice xA xn xc) := h1 4 _ rfl
          clear h1
          have HCy : Hid (∀ (w' : World), Below wr.heap.size wr w' → Calls Try.prog 105 #[.agg #[.int .i64 xo, .int .i64 xm, .int .i64 xl, .int .i64 xh, .slice xA xn xc], .int .u64 y] w' fun e w'' => e = .returned (.bool fx) ∧ Below w'.heap.size w' w'') := HCx
          clear HCx
          cases fx
          · go_wp2_with fail
            go_region_held3 (fun w' => w'.cell? ⟨wr.heap.size, 0, none⟩ = some (.int .i64 xo) ∧ w'.cell? ⟨wr.heap.size, 1, none⟩ = some (.int .i64 xm) ∧ w'.cell? ⟨wr.heap.size, 2, none⟩ = some (.int .i64 xl) ∧ w'.cell? ⟨wr.heap.size, 3, none⟩ = some (.int .i64 xh) ∧ w'.cell? ⟨wr.heap.size, 4, none⟩ = some (.slice xA xn xc) ∧ w'.cell? ⟨w.heap.size, 0, none⟩ = some (.int .i64 4)) (first | go_keep | exact keep6 hb1 (by assumption))
              ((go_at_call 105; refine (HCy.out _ (Below.drew (Below.alloc (Below.refl _ _) (Nat.le_refl _) _))).mono ?_; rintro e w1 ⟨rfl, hb1⟩))
            rename_i hS
            clear hS
            have HK := hide (HO.out.keep ((Below.drew (Below.alloc (Below.refl _ _) (Nat.le_refl _) _)).trans (hb1.mono (by simp))))
            go_wp2_with fail
            go_roundw
            case rel =>
              obtain ⟨z, hz1, hz2, hz3⟩ := HEX.out
              exact ⟨k + 1, by omega, by go_num, hz3 (by simp [hz2]), HK.out⟩
            case measure => simp [intOf]; omega
          · go_wp2_with fail
            go_region_held3 (fun w' => w'.cell? ⟨wr.heap.size, 0, none⟩ = some (.int .i64 xo) ∧ w'.cell? ⟨wr.heap.size, 1, none⟩ = some (.int .i64 xm) ∧ w'.cell? ⟨wr.heap.size, 2, none⟩ = some (.int .i64 xl) ∧ w'.cell? ⟨wr.heap.size, 3, none⟩ = some (.int .i64 xh) ∧ w'.cell? ⟨wr.heap.size, 4, none⟩ = some (.slice xA xn xc) ∧ w'.cell? ⟨w.heap.size, 0, none⟩ = some (.int .i64 4)) (first | go_keep | exact keep6 hb1 (by assumption))
              ((go_at_call 105; refine (HCy.out _ (Below.drew (Below.alloc (Below.refl _ _) (Nat.le_refl _) _))).mono ?_; rintro e w1 ⟨rfl, hb1⟩))
            rename_i hS
            clear hS
            have HK := hide (HO.out.keep ((Below.drew (Below.alloc (Below.refl _ _) (Nat.le_refl _) _)).trans (hb1.mono (by simp))))
            go_wp2_with fail
            go_ret
            obtain ⟨z, hz1, hz2, _⟩ := HEX.out
            exact ⟨by rw [HR.out, all_not hz1 (by simp [hz2])]; rfl, HK.out.below⟩
        · have hfin := hide (show R = true by rw [HR.out]; exact all_full HA.out (by have := HT.out.2.2.2; omega))
          go_wp2_with fail
          go_ret
          exact ⟨by rw [hfin.out]; rfl, hb⟩
end Go.Proofs.Ytkldjnopapipfaa
