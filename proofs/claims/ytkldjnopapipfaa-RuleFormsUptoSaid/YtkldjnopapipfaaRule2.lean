/-
  lang.testForm: whether the fields of a test, and of its kids, are right.
-/
import Derived.Test.YtkldjnopapipfaaRule1
namespace Go.Proofs.Ytkldjnopapipfaa
open Go.RowKit
set_option linter.unusedVariables false

/-- Whether a kid is right under a test of that operation. -/
def okKid (f : Tst → Bool) (o : Int) (x : Tst) : Bool := f x && !(decide (o ≠ 4) && decide (x.op = o))
def least (o : Int) : Nat := if o = 4 then 1 else 2
def frmN : Nat → Tst → Bool
  | 0, _ => false
  | N + 1, .mk o m lo hi _ n _ l =>
    if o = 1 then decide (n = 0)
    else decide (o = 2 ∨ o = 3 ∨ o = 4) && (decide (least o ≤ n) && (l.all (okKid (frmN N) o) && decide (m = 0 ∧ lo = 0 ∧ hi = 0)))

theorem all_upto {α : Type} {f : α → Bool} {l : List α} {k : Nat} {x : α} (h : ∀ y ∈ l.take k, f y = true) (hx : l[k]? = some x) (hf : f x = true) : ∀ y ∈ l.take (k + 1), f y = true := by
  intro y hy
  rw [List.take_add_one, hx] at hy
  rcases List.mem_append.1 hy with hy | hy
  · exact h y hy
  · simp at hy
    rw [hy]
    exact hf
theorem all_full {α : Type} {f : α → Bool} {l : List α} {k : Nat} (h : ∀ y ∈ l.take k, f y = true) (hk : l.length ≤ k) : l.all f = true := by
  rw [List.take_of_length_le hk] at h
  exact List.all_eq_true.2 h
theorem all_not {α : Type} {f : α → Bool} {l : List α} {x : α} (hx : x ∈ l) (hf : f x = false) : l.all f = false := by
  rw [List.all_eq_false]
  exact ⟨x, hx, by simp [hf]⟩

structure OwnT (w W : World) (o m lo hi : Int) (u : Value) : Prop where
  below : Below w.heap.size w W
  s0 : W.cell? ⟨w.heap.size, 0, none⟩ = some (.int .i64 o)
  s1 : W.cell? ⟨w.heap.size, 1, none⟩ = some (.int .i64 m)
  s2 : W.cell? ⟨w.heap.size, 2, none⟩ = some (.int .i64 lo)
  s3 : W.cell? ⟨w.heap.size, 3, none⟩ = some (.int .i64 hi)
  s4 : W.cell? ⟨w.heap.size, 4, none⟩ = some u
theorem OwnT.keep {w W W' : World} {o m lo hi : Int} {u : Value} (h : OwnT w W o m lo hi u) (hb : Below W.heap.size W W') : OwnT w W' o m lo hi u :=
  ⟨h.below.trans (hb.mono h.below.size), keept hb h.s0, keept hb h.s1, keept hb h.s2, keept hb h.s3, keept hb h.s4⟩
theorem OwnT.start (w : World) (o m lo hi : Int) (u : Value) (t : TypeId) : OwnT w (w.alloc (.cells #[.int .i64 o, .int .i64 m, .int .i64 lo, .int .i64 hi, u] t)) o m lo hi u :=
  ⟨Below.alloc (Below.refl _ _) (Nat.le_refl _) _, (World.cell?_alloc_at _ _ _ _ rfl).trans rfl, (World.cell?_alloc_at _ _ _ _ rfl).trans rfl, (World.cell?_alloc_at _ _ _ _ rfl).trans rfl, (World.cell?_alloc_at _ _ _ _ rfl).trans rfl, (World.cell?_alloc_at _ _ _ _ rfl).trans rfl⟩

def FrmRel (f : Tst → Bool) (l : List Tst) (n : Nat) (w : World) (o m lo hi : Int) (u : Value) (v : Value) (wr : World) : Prop :=
  ∃ k : Nat, k ≤ n ∧ v = .int .i64 k ∧ (∀ y ∈ l.take k, okKid f o y = true) ∧ OwnT w wr o m lo hi u

set_option maxHeartbeats 4000000 in
set_option maxRecDepth 100000 in
theorem testForm_any : ∀ (N : Nat) (t : Tst) (w : World), TR w N t → cntN N t ≤ 2000000 → Calls Try.prog 103 #[t.val] w fun e w' => e = .returned (.bool (frmN N t)) ∧ Below w.heap.size w w'
  | 0, _, _, h, _ => by simp [TR] at h
  | N + 1, .mk o m lo hi A n c l, w, h, hc => by
    have hcl : (l.map (cntN N)).sum ≤ 2000000 := by simp only [cntN] at hc; omega
    have HC : Hid (∀ x w', x ∈ l → TR w' N x → Calls Try.prog 103 #[x.val] w' fun e w'' => e = .returned (.bool (frmN N x)) ∧ Below w'.heap.size w' w'') := fun x w' hx hr => testForm_any N x w' hr (by have := kid_cnt (N := N) hx; omega)
    obtain ⟨h1, h2, h3, h4, hn, hsl, hr, hk⟩ := h
    have hnb : n ≤ 100000000000000 := by have := hsl.nc; have := hsl.cb; omega
    have HT := hide (And.intro hcl (And.intro hr (And.intro hk hn)))
    clear hr hk hn h1 h2 h3 h4 hsl hc hcl
    obtain ⟨R, hR⟩ : ∃ R, R = frmN (N + 1) (.mk o m lo hi A n c l) := ⟨_, rfl⟩
    rw [← hR]
    simp only [frmN] at hR
    have hcases : o = 1 ∨ o = 2 ∨ o = 3 ∨ o = 4 ∨ (¬ o = 1 ∧ ¬ o = 2 ∧ ¬ o = 3 ∧ ¬ o = 4) := by omega
    rcases hcases with rfl | rfl | rfl | rfl | ⟨n1, n2, n3, n4⟩
    · have hR1 : R = decide (n = 0) := by rw [hR]; simp
      have HR := hide hR1
      clear hR hR1
      have HNZ := hide (show ((n : Int) == 0) = decide (n = 0) by by_cases h : n = 0 <;> simp [h])
      show Calls Try.prog 103 #[.agg #[.int .i64 1, .int .i64 m, .int .i64 lo, .int .i64 hi, .slice A n c]] w _
      go_enter Try.func103, Try.ntmps103
      go_wp2_with fail
      go_ret
      exact ⟨by rw [HR.out, ← HNZ.out]; rfl, Below.alloc (Below.refl _ _) (Nat.le_refl _) _⟩
    · have hR1 : R = (decide (2 ≤ n) && (l.all (okKid (frmN N) 2) && decide (m = 0 ∧ lo = 0 ∧ hi = 0))) := by rw [hR]; simp [least]
      have HR := hide hR1
      clear hR hR1
      by_cases hl : n < 2
      · have hl' : (n : Int) < 2 := by omega
        show Calls Try.prog 103 #[.agg #[.int .i64 2, .int .i64 m, .int .i64 lo, .int .i64 hi, .slice A n c]] w _
        go_enter Try.func103, Try.ntmps103
        go_wp2_with fail
        go_ret
        exact ⟨by rw [HR.out, decide_eq_false (by omega)]; rfl, Below.alloc (Below.refl _ _) (Nat.le_refl _) _⟩
      · have hl' : ¬ (n : Int) < 2 := by omega
        have HR2 : Hid (R = (l.all (okKid (frmN N) 2) && decide (m = 0 ∧ lo = 0 ∧ hi = 0))) := by
          show R = _
          rw [HR.out, decide_eq_true (by omega)]; simp
        clear HR
        show Calls Try.prog 103 #[.agg #[.int .i64 2, .int .i64 m, .int .i64 lo, .int .i64 hi, .slice A n c]] w _
        go_enter Try.func103, Try.ntmps103
        go_wp2_with fail
        go_loopw [27] (FrmRel (frmN N) l n w 2 m lo hi (.slice A n c)) (fun v _ => n - (intOf v).toNat)
        case atStart => exact ⟨0, by omega, rfl, fun y hy => by simp at hy, OwnT.start _ _ _ _ _ _ _⟩
        case round =>
          obtain ⟨k, hk, rfl, hall, hO⟩ := hrel
          have HA := hide hall
          have HO := hide hO
          have hb := hO.below
          have s0 := hO.s0
          have s1 := hO.s1
          have s2 := hO.s2
          have s3 := hO.s3
          have hwl : w.heap.size < wr.heap.size := World.block_lt_of_cell? wr _ s0
          clear hall hO
          by_cases hlt : k < n
          · obtain ⟨_, hrd, hkr, hln⟩ := HT.out
            obtain ⟨b, oo, x, rfl, hx, hm, h1⟩ := (hrd.keep hb).at_ (k := k) (by omega)
            have hxr := (hkr x hm).keep hb
            have hki : (k : Int) < n := by omega
            have HX := hide (fun h => all_upto HA.out hx h)
            have HXN := hide (fun h => all_not (f := okKid (frmN N) 2) hm h)
            have hop : okKid (frmN N) 2 x = (frmN N x && !decide (x.op = 2)) := by simp [okKid]
            rw [hop] at HX HXN
            clear hop
            have HCx := hide (fun (w' : World) (hb' : Below wr.heap.size wr w') => calls_from hb' (HC.out x w' hm (hxr.keep hb')))
            obtain ⟨fx, hfx⟩ : ∃ fx, fx = frmN N x := ⟨_, rfl⟩
            rw [← hfx] at HX HXN HCx
            clear hfx
            clear hrd hkr hln hx hm hxr
            obtain ⟨xo, xm, xl, xh, xA, xn, xc, xk⟩ := x
            have a0 : wr.cell? ⟨b, oo + k * 5, none⟩ = some (.int .i64 xo) := h1 0 _ rfl
            have a1 : wr.cell? ⟨b, oo + k * 5 + 1, none⟩ = some (.int .i64 xm) := h1 1 _ rfl
            have a2 : wr.cell? ⟨b, oo + k * 5 + 2, none⟩ = some (.int .i64 xl) := h1 2 _ rfl
            have a3 : wr.cell? ⟨b, oo + k * 5 + 3, none⟩ = some (.int .i64 xh) := h1 3 _ rfl
            have a4 : wr.cell? ⟨b, oo + k * 5 + 4, none⟩ = some (.slice xA xn xc) := h1 4 _ rfl
            clear h1
            have HCy : Hid (∀ (w' : World), Below wr.heap.size wr w' → Calls Try.prog 103 #[.agg #[.int .i64 xo, .int .i64 xm, .int .i64 xl, .int .i64 xh, .slice xA xn xc]] w' fun e w'' => e = .returned (.bool fx) ∧ Below wr.heap.size wr w'') := HCx
            clear HCx
            by_cases hxo : xo = 2
            · have HXO := hide hxo
              subst hxo
              go_wp2_with fail
              go_ret
              exact ⟨by rw [HR2.out, HXN.out (by simp [Tst.op])]; rfl, (HO.out.keep (Below.alloc (Below.refl _ _) (Nat.le_refl _) _)).below⟩
            · have hxo' : (xo == 2) = false := by simpa using hxo
              have HXO := hide hxo
              clear hxo
              cases fx
              · go_wp2_with (go_at_call 103; refine (HCy.out _ (Below.alloc (Below.refl _ _) (Nat.le_refl _) _)).mono ?_; rintro e w1 ⟨rfl, hb1⟩)
                go_ret
                exact ⟨by rw [HR2.out, HXN.out (by simp)]; rfl, (HO.out.keep hb1).below⟩
              · go_wp2_with (go_at_call 103; refine (HCy.out _ (Below.alloc (Below.refl _ _) (Nat.le_refl _) _)).mono ?_; rintro e w1 ⟨rfl, hb1⟩)
                go_roundw
                case rel => exact ⟨k + 1, by omega, by go_num, HX.out (by have h2 := HXO.out; simp [Tst.op, h2]), HO.out.keep hb1⟩
                case measure => simp [intOf]; omega
          · have hfull : l.all (okKid (frmN N) 2) = true := all_full HA.out (by have := HT.out.2.2.2; omega)
            have HR3 : Hid (R = decide (m = 0 ∧ lo = 0 ∧ hi = 0)) := by
              show R = _
              rw [HR2.out, hfull]; rfl
            clear hfull HR2 HA
            by_cases e1 : m = 0
            · by_cases e2 : lo = 0
              · by_cases e3 : hi = 0
                · subst e1 e2 e3
                  go_wp2_with fail
                  go_ret
                  exact ⟨by rw [HR3.out]; rfl, hb⟩
                · have e3' : (hi == 0) = false := by simpa using e3
                  have H3 := hide e3
                  clear e3
                  subst e1 e2
                  go_wp2_with fail
                  go_ret
                  exact ⟨by rw [HR3.out, decide_eq_false (fun h => H3.out h.2.2)]; rfl, hb⟩
              · have e2' : (lo == 0) = false := by simpa using e2
                have H2 := hide e2
                clear e2
                subst e1
                go_wp2_with fail
                go_ret
                exact ⟨by rw [HR3.out, decide_eq_false (fun h => H2.out h.2.1)]; rfl, hb⟩
            · have e1' : (m == 0) = false := by simpa using e1
              have H1 := hide e1
              clear e1
              go_wp2_with fail
              go_ret
              exact ⟨by rw [HR3.out, decide_eq_false (fun h => H1.out h.1)]; rfl, hb⟩
    · have hR1 : R = (decide (2 ≤ n) && (l.all (okKid (frmN N) 3) && decide (m = 0 ∧ lo = 0 ∧ hi = 0))) := by rw [hR]; simp [least]
      have HR := hide hR1
      clear hR hR1
      by_cases hl : n < 2
      · have hl' : (n : Int) < 2 := by omega
        show Calls Try.prog 103 #[.agg #[.int .i64 3, .int .i64 m, .int .i64 lo, .int .i64 hi, .slice A n c]] w _
        go_enter Try.func103, Try.ntmps103
        go_wp2_with fail
        go_ret
        exact ⟨by rw [HR.out, decide_eq_false (by omega)]; rfl, Below.alloc (Below.refl _ _) (Nat.le_refl _) _⟩
      · have hl' : ¬ (n : Int) < 2 := by omega
        have HR2 : Hid (R = (l.all (okKid (frmN N) 3) && decide (m = 0 ∧ lo = 0 ∧ hi = 0))) := by
          show R = _
          rw [HR.out, decide_eq_true (by omega)]; simp
        clear HR
        show Calls Try.prog 103 #[.agg #[.int .i64 3, .int .i64 m, .int .i64 lo, .int .i64 hi, .slice A n c]] w _
        go_enter Try.func103, Try.ntmps103
        go_wp2_with fail
        go_loopw [27] (FrmRel (frmN N) l n w 3 m lo hi (.slice A n c)) (fun v _ => n - (intOf v).toNat)
        case atStart => exact ⟨0, by omega, rfl, fun y hy => by simp at hy, OwnT.start _ _ _ _ _ _ _⟩
        case round =>
          obtain ⟨k, hk, rfl, hall, hO⟩ := hrel
          have HA := hide hall
          have HO := hide hO
          have hb := hO.below
          have s0 := hO.s0
          have s1 := hO.s1
          have s2 := hO.s2
          have s3 := hO.s3
          have hwl : w.heap.size < wr.heap.size := World.block_lt_of_cell? wr _ s0
          clear hall hO
          by_cases hlt : k < n
          · obtain ⟨_, hrd, hkr, hln⟩ := HT.out
            obtain ⟨b, oo, x, rfl, hx, hm, h1⟩ := (hrd.keep hb).at_ (k := k) (by omega)
            have hxr := (hkr x hm).keep hb
            have hki : (k : Int) < n := by omega
            have HX := hide (fun h => all_upto HA.out hx h)
            have HXN := hide (fun h => all_not (f := okKid (frmN N) 3) hm h)
            have hop : okKid (frmN N) 3 x = (frmN N x && !decide (x.op = 3)) := by simp [okKid]
            rw [hop] at HX HXN
            clear hop
            have HCx := hide (fun (w' : World) (hb' : Below wr.heap.size wr w') => calls_from hb' (HC.out x w' hm (hxr.keep hb')))
            obtain ⟨fx, hfx⟩ : ∃ fx, fx = frmN N x := ⟨_, rfl⟩
            rw [← hfx] at HX HXN HCx
            clear hfx
            clear hrd hkr hln hx hm hxr
            obtain ⟨xo, xm, xl, xh, xA, xn, xc, xk⟩ := x
            have a0 : wr.cell? ⟨b, oo + k * 5, none⟩ = some (.int .i64 xo) := h1 0 _ rfl
            have a1 : wr.cell? ⟨b, oo + k * 5 + 1, none⟩ = some (.int .i64 xm) := h1 1 _ rfl
            have a2 : wr.cell? ⟨b, oo + k * 5 + 2, none⟩ = some (.int .i64 xl) := h1 2 _ rfl
            have a3 : wr.cell? ⟨b, oo + k * 5 + 3, none⟩ = some (.int .i64 xh) := h1 3 _ rfl
            have a4 : wr.cell? ⟨b, oo + k * 5 + 4, none⟩ = some (.slice xA xn xc) := h1 4 _ rfl
            clear h1
            have HCy : Hid (∀ (w' : World), Below wr.heap.size wr w' → Calls Try.prog 103 #[.agg #[.int .i64 xo, .int .i64 xm, .int .i64 xl, .int .i64 xh, .slice xA xn xc]] w' fun e w'' => e = .returned (.bool fx) ∧ Below wr.heap.size wr w'') := HCx
            clear HCx
            by_cases hxo : xo = 3
            · have HXO := hide hxo
              subst hxo
              go_wp2_with fail
              go_ret
              exact ⟨by rw [HR2.out, HXN.out (by simp [Tst.op])]; rfl, (HO.out.keep (Below.alloc (Below.refl _ _) (Nat.le_refl _) _)).below⟩
            · have hxo' : (xo == 3) = false := by simpa using hxo
              have HXO := hide hxo
              clear hxo
              cases fx
              · go_wp2_with (go_at_call 103; refine (HCy.out _ (Below.alloc (Below.refl _ _) (Nat.le_refl _) _)).mono ?_; rintro e w1 ⟨rfl, hb1⟩)
                go_ret
                exact ⟨by rw [HR2.out, HXN.out (by simp)]; rfl, (HO.out.keep hb1).below⟩
              · go_wp2_with (go_at_call 103; refine (HCy.out _ (Below.alloc (Below.refl _ _) (Nat.le_refl _) _)).mono ?_; rintro e w1 ⟨rfl, hb1⟩)
                go_roundw
                case rel => exact ⟨k + 1, by omega, by go_num, HX.out (by have h2 := HXO.out; simp [Tst.op, h2]), HO.out.keep hb1⟩
                case measure => simp [intOf]; omega
          · have hfull : l.all (okKid (frmN N) 3) = true := all_full HA.out (by have := HT.out.2.2.2; omega)
            have HR3 : Hid (R = decide (m = 0 ∧ lo = 0 ∧ hi = 0)) := by
              show R = _
              rw [HR2.out, hfull]; rfl
            clear hfull HR2 HA
            by_cases e1 : m = 0
            · by_cases e2 : lo = 0
              · by_cases e3 : hi = 0
                · subst e1 e2 e3
                  go_wp2_with fail
                  go_ret
                  exact ⟨by rw [HR3.out]; rfl, hb⟩
                · have e3' : (hi == 0) = false := by simpa using e3
                  have H3 := hide e3
                  clear e3
                  subst e1 e2
                  go_wp2_with fail
                  go_ret
                  exact ⟨by rw [HR3.out, decide_eq_false (fun h => H3.out h.2.2)]; rfl, hb⟩
              · have e2' : (lo == 0) = false := by simpa using e2
                have H2 := hide e2
                clear e2
                subst e1
                go_wp2_with fail
                go_ret
                exact ⟨by rw [HR3.out, decide_eq_false (fun h => H2.out h.2.1)]; rfl, hb⟩
            · have e1' : (m == 0) = false := by simpa using e1
              have H1 := hide e1
              clear e1
              go_wp2_with fail
              go_ret
              exact ⟨by rw [HR3.out, decide_eq_false (fun h => H1.out h.1)]; rfl, hb⟩
    · have hR1 : R = (decide (1 ≤ n) && (l.all (okKid (frmN N) 4) && decide (m = 0 ∧ lo = 0 ∧ hi = 0))) := by rw [hR]; simp [least]
      have HR := hide hR1
      clear hR hR1
      by_cases hl : n < 1
      · have hl' : (n : Int) < 1 := by omega
        show Calls Try.prog 103 #[.agg #[.int .i64 4, .int .i64 m, .int .i64 lo, .int .i64 hi, .slice A n c]] w _
        go_enter Try.func103, Try.ntmps103
        go_wp2_with fail
        go_ret
        exact ⟨by rw [HR.out, decide_eq_false (by omega)]; rfl, Below.alloc (Below.refl _ _) (Nat.le_refl _) _⟩
      · have hl' : ¬ (n : Int) < 1 := by omega
        have HR2 : Hid (R = (l.all (okKid (frmN N) 4) && decide (m = 0 ∧ lo = 0 ∧ hi = 0))) := by
          show R = _
          rw [HR.out, decide_eq_true (by omega)]; simp
        clear HR
        show Calls Try.prog 103 #[.agg #[.int .i64 4, .int .i64 m, .int .i64 lo, .int .i64 hi, .slice A n c]] w _
        go_enter Try.func103, Try.ntmps103
        go_wp2_with fail
        go_loopw [27] (FrmRel (frmN N) l n w 4 m lo hi (.slice A n c)) (fun v _ => n - (intOf v).toNat)
        case atStart => exact ⟨0, by omega, rfl, fun y hy => by simp at hy, OwnT.start _ _ _ _ _ _ _⟩
        case round =>
          obtain ⟨k, hk, rfl, hall, hO⟩ := hrel
          have HA := hide hall
          have HO := hide hO
          have hb := hO.below
          have s0 := hO.s0
          have s1 := hO.s1
          have s2 := hO.s2
          have s3 := hO.s3
          have hwl : w.heap.size < wr.heap.size := World.block_lt_of_cell? wr _ s0
          clear hall hO
          by_cases hlt : k < n
          · obtain ⟨_, hrd, hkr, hln⟩ := HT.out
            obtain ⟨b, oo, x, rfl, hx, hm, h1⟩ := (hrd.keep hb).at_ (k := k) (by omega)
            have hxr := (hkr x hm).keep hb
            have hki : (k : Int) < n := by omega
            have HX := hide (fun h => all_upto HA.out hx h)
            have HXN := hide (fun h => all_not (f := okKid (frmN N) 4) hm h)
            have hop : okKid (frmN N) 4 x = (frmN N x && true) := by simp [okKid]
            rw [hop] at HX HXN
            clear hop
            have HCx := hide (fun (w' : World) (hb' : Below wr.heap.size wr w') => calls_from hb' (HC.out x w' hm (hxr.keep hb')))
            obtain ⟨fx, hfx⟩ : ∃ fx, fx = frmN N x := ⟨_, rfl⟩
            rw [← hfx] at HX HXN HCx
            clear hfx
            clear hrd hkr hln hx hm hxr
            obtain ⟨xo, xm, xl, xh, xA, xn, xc, xk⟩ := x
            have a0 : wr.cell? ⟨b, oo + k * 5, none⟩ = some (.int .i64 xo) := h1 0 _ rfl
            have a1 : wr.cell? ⟨b, oo + k * 5 + 1, none⟩ = some (.int .i64 xm) := h1 1 _ rfl
            have a2 : wr.cell? ⟨b, oo + k * 5 + 2, none⟩ = some (.int .i64 xl) := h1 2 _ rfl
            have a3 : wr.cell? ⟨b, oo + k * 5 + 3, none⟩ = some (.int .i64 xh) := h1 3 _ rfl
            have a4 : wr.cell? ⟨b, oo + k * 5 + 4, none⟩ = some (.slice xA xn xc) := h1 4 _ rfl
            clear h1
            have HCy : Hid (∀ (w' : World), Below wr.heap.size wr w' → Calls Try.prog 103 #[.agg #[.int .i64 xo, .int .i64 xm, .int .i64 xl, .int .i64 xh, .slice xA xn xc]] w' fun e w'' => e = .returned (.bool fx) ∧ Below wr.heap.size wr w'') := HCx
            clear HCx
            cases fx
            · go_wp2_with (go_at_call 103; refine (HCy.out _ (Below.alloc (Below.refl _ _) (Nat.le_refl _) _)).mono ?_; rintro e w1 ⟨rfl, hb1⟩)
              go_ret
              exact ⟨by rw [HR2.out, HXN.out (by simp)]; rfl, (HO.out.keep hb1).below⟩
            · go_wp2_with (go_at_call 103; refine (HCy.out _ (Below.alloc (Below.refl _ _) (Nat.le_refl _) _)).mono ?_; rintro e w1 ⟨rfl, hb1⟩)
              go_roundw
              case rel => exact ⟨k + 1, by omega, by go_num, HX.out (by simp), HO.out.keep hb1⟩
              case measure => simp [intOf]; omega
          · have hfull : l.all (okKid (frmN N) 4) = true := all_full HA.out (by have := HT.out.2.2.2; omega)
            have HR3 : Hid (R = decide (m = 0 ∧ lo = 0 ∧ hi = 0)) := by
              show R = _
              rw [HR2.out, hfull]; rfl
            clear hfull HR2 HA
            by_cases e1 : m = 0
            · by_cases e2 : lo = 0
              · by_cases e3 : hi = 0
                · subst e1 e2 e3
                  go_wp2_with fail
                  go_ret
                  exact ⟨by rw [HR3.out]; rfl, hb⟩
                · have e3' : (hi == 0) = false := by simpa using e3
                  have H3 := hide e3
                  clear e3
                  subst e1 e2
                  go_wp2_with fail
                  go_ret
                  exact ⟨by rw [HR3.out, decide_eq_false (fun h => H3.out h.2.2)]; rfl, hb⟩
              · have e2' : (lo == 0) = false := by simpa using e2
                have H2 := hide e2
                clear e2
                subst e1
                go_wp2_with fail
                go_ret
                exact ⟨by rw [HR3.out, decide_eq_false (fun h => H2.out h.2.1)]; rfl, hb⟩
            · have e1' : (m == 0) = false := by simpa using e1
              have H1 := hide e1
              clear e1
              go_wp2_with fail
              go_ret
              exact ⟨by rw [HR3.out, decide_eq_false (fun h => H1.out h.1)]; rfl, hb⟩
    · have hR1 : R = false := by rw [hR]; simp [n1, n2, n3, n4]
      have HR := hide hR1
      have m1 : (o == 1) = false := by simpa using n1
      have m2 : (o == 2) = false := by simpa using n2
      have m3 : (o == 3) = false := by simpa using n3
      have m4 : (o == 4) = false := by simpa using n4
      clear hR hR1 n1 n2 n3 n4
      show Calls Try.prog 103 #[.agg #[.int .i64 o, .int .i64 m, .int .i64 lo, .int .i64 hi, .slice A n c]] w _
      go_enter Try.func103, Try.ntmps103
      go_wp2_with fail
      go_ret
      exact ⟨by rw [HR.out]; rfl, Below.alloc (Below.refl _ _) (Nat.le_refl _) _⟩
end Go.Proofs.Ytkldjnopapipfaa
