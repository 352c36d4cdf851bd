/-
  The reference's testForm.
-/
import Derived.Test.YtkldjnopapipfaaRule10
namespace Go.Proofs.Ytkldjnopapipfaa
open Go.RowKit Go.Maps
set_option linter.unusedVariables false

theorem box5 {wr w4 : World} {v0 v1 v2 v3 v4 : Value} {t : TypeId} (hb : Below (wr.alloc (.cells #[v0, v1, v2, v3, v4] t)).heap.size (wr.alloc (.cells #[v0, v1, v2, v3, v4] t)) w4) :
    w4.cell? ⟨wr.heap.size, 0, none⟩ = some v0 ∧ w4.cell? ⟨wr.heap.size, 1, none⟩ = some v1 ∧ w4.cell? ⟨wr.heap.size, 2, none⟩ = some v2 ∧ w4.cell? ⟨wr.heap.size, 3, none⟩ = some v3 ∧ w4.cell? ⟨wr.heap.size, 4, none⟩ = some v4 :=
  keep5 hb ⟨(World.cell?_alloc_at _ _ _ _ rfl).trans rfl, (World.cell?_alloc_at _ _ _ _ rfl).trans rfl, (World.cell?_alloc_at _ _ _ _ rfl).trans rfl, (World.cell?_alloc_at _ _ _ _ rfl).trans rfl, (World.cell?_alloc_at _ _ _ _ rfl).trans rfl⟩

def FrmRR (f : Tst → Bool) (l : List Tst) (n : Nat) (w : World) (o m lo hi : Int) (u : Value) (v : Value) (wr : World) : Prop :=
  ∃ k : Nat, k ≤ n ∧ v = .int .i64 k ∧ (∀ y ∈ l.take k, okKid f o y = true) ∧ OwnT w wr o m lo hi u

set_option maxHeartbeats 4000000 in
set_option maxRecDepth 100000 in
theorem refForm_any : ∀ (N : Nat) (t : Tst) (w : World), TR w N t → Calls Try.prog 66 #[t.val] w fun e w' => e = .returned (.bool (frmN N t)) ∧ Below w.heap.size w w'
  | 0, _, _, h => by simp [TR] at h
  | N + 1, .mk o m lo hi A n c l, w, h => by
    have HC : Hid (∀ x w', x ∈ l → TR w' N x → Calls Try.prog 66 #[x.val] w' fun e w'' => e = .returned (.bool (frmN N x)) ∧ Below w'.heap.size w' w'') := fun x w' hx hr => refForm_any N x w' hr
    obtain ⟨h1, h2, h3, h4, hn, hsl, hr, hk⟩ := h
    have hnb : n ≤ 100000000000000 := by have := hsl.nc; have := hsl.cb; omega
    have HT := hide (And.intro hr (And.intro hk hn))
    have HO64 := hide h1
    clear hr hk hn h1 h2 h3 h4 hsl
    obtain ⟨R, hR⟩ : ∃ R, R = frmN (N + 1) (.mk o m lo hi A n c l) := ⟨_, rfl⟩
    rw [← hR]
    simp only [frmN] at hR
    have hcases : o = 1 ∨ o = 2 ∨ o = 3 ∨ o = 4 ∨ (¬ o = 1 ∧ ¬ o = 2 ∧ ¬ o = 3 ∧ ¬ o = 4) := by omega
    rcases hcases with rfl | rfl | rfl | rfl | ⟨n1, n2, n3, n4⟩
    · have hR1 : R = decide (n = 0) := by rw [hR]; simp
      have HR := hide hR1
      clear hR hR1
      have HNZ := hide (show ((n : Int) == 0) = decide (n = 0) by by_cases h : n = 0 <;> simp [h])
      obtain ⟨w1, w2, w3, r1, r2, r3, r4, hb3⟩ := least_run (w.alloc (.cells #[.int .i64 1, .int .i64 m, .int .i64 lo, .int .i64 hi, .slice A n c] 142)) (w.heap.size + 1) (by simp) 1 ⟨by decide, by decide⟩
      rw [show leastR 1 = 0 from rfl, show isOp 1 = false from rfl] at r4
      have hO := (OwnT.start w 1 m lo hi (.slice A n c) 142).keep hb3
      have HO := hide hO
      have s0 := hO.s0
      have s1 := hO.s1
      have s2 := hO.s2
      have s3 := hO.s3
      have s4 := hO.s4
      have hwl : w.heap.size < w3.heap.size := World.block_lt_of_cell? w3 _ s0
      clear hO hb3
      have hmm := @run_makeMap Try.prog
      show Calls Try.prog 66 #[.agg #[.int .i64 1, .int .i64 m, .int .i64 lo, .int .i64 hi, .slice A n c]] w _
      go_enter Try.func66, Try.ntmps66
      go_wp2_with fail
      go_ret
      exact ⟨by rw [HR.out, ← HNZ.out] <;> rfl, HO.out.below⟩
    · have hR1 : R = (decide (2 ≤ n) && (l.all (okKid (frmN N) 2) && decide (m = 0 ∧ lo = 0 ∧ hi = 0))) := by rw [hR]; simp [least]
      have HR := hide hR1
      clear hR hR1
      by_cases hl : n < 2
      · have hl' : (n : Int) < 2 := by omega
        obtain ⟨w1, w2, w3, r1, r2, r3, r4, hb3⟩ := least_run (w.alloc (.cells #[.int .i64 2, .int .i64 m, .int .i64 lo, .int .i64 hi, .slice A n c] 142)) (w.heap.size + 1) (by simp) 2 ⟨by decide, by decide⟩
        rw [show leastR 2 = 2 from rfl, show isOp 2 = true from rfl] at r4
        have hO := (OwnT.start w 2 m lo hi (.slice A n c) 142).keep hb3
        have HO := hide hO
        have s0 := hO.s0
        have s1 := hO.s1
        have s2 := hO.s2
        have s3 := hO.s3
        have s4 := hO.s4
        have hwl : w.heap.size < w3.heap.size := World.block_lt_of_cell? w3 _ s0
        clear hO hb3
        have hmm := @run_makeMap Try.prog
        show Calls Try.prog 66 #[.agg #[.int .i64 2, .int .i64 m, .int .i64 lo, .int .i64 hi, .slice A n c]] w _
        go_enter Try.func66, Try.ntmps66
        go_wp2_with fail
        go_ret
        exact ⟨by rw [HR.out, decide_eq_false (by omega)] <;> rfl, HO.out.below⟩
      · have hl' : ¬ (n : Int) < 2 := by omega
        have HR2 : Hid (R = (l.all (okKid (frmN N) 2) && decide (m = 0 ∧ lo = 0 ∧ hi = 0))) := by
          show R = _
          rw [HR.out, decide_eq_true (by omega)]; simp
        clear HR
        by_cases e1 : m = 0
        · by_cases e2 : lo = 0
          · by_cases e3 : hi = 0
            · subst e1 e2 e3
              have HR3 : Hid (R = l.all (okKid (frmN N) 2)) := by
                show R = _
                rw [HR2.out]; simp
              clear HR2
              obtain ⟨w1, w2, w3, r1, r2, r3, r4, hb3⟩ := least_run (w.alloc (.cells #[.int .i64 2, .int .i64 0, .int .i64 0, .int .i64 0, .slice A n c] 142)) (w.heap.size + 1) (by simp) 2 ⟨by decide, by decide⟩
              rw [show leastR 2 = 2 from rfl, show isOp 2 = true from rfl] at r4
              have hO := (OwnT.start w 2 0 0 0 (.slice A n c) 142).keep hb3
              have HO := hide hO
              have s0 := hO.s0
              have s1 := hO.s1
              have s2 := hO.s2
              have s3 := hO.s3
              have s4 := hO.s4
              have hwl : w.heap.size < w3.heap.size := World.block_lt_of_cell? w3 _ s0
              clear hO hb3
              have hmm := @run_makeMap Try.prog
              show Calls Try.prog 66 #[.agg #[.int .i64 2, .int .i64 0, .int .i64 0, .int .i64 0, .slice A n c]] w _
              go_enter Try.func66, Try.ntmps66
              go_wp2_with fail
              go_loopw [51] (FrmRR (frmN N) l n w 2 0 0 0 (.slice A n c)) (fun v _ => n - (intOf v).toNat)
              case atStart => exact ⟨0, by omega, rfl, fun y hy => by simp at hy, HO.out⟩
              case round =>
                clear HO s0 s1 s2 s3 s4 hwl r1 r2 r3 r4
                obtain ⟨k, hk, rfl, hall, hO⟩ := hrel
                have HA := hide hall
                have HO := hide hO
                have hb := hO.below
                have s0 := hO.s0
                have hwl : w.heap.size < wr.heap.size := World.block_lt_of_cell? wr _ s0
                clear hall hO
                by_cases hlt : k < n
                · obtain ⟨hrd, hkr, hln⟩ := HT.out
                  obtain ⟨b, oo, x, rfl, hx, hm, h1⟩ := (hrd.keep hb).at_ (k := k) (by omega)
                  have hxr := (hkr x hm).keep hb
                  have hki : (k : Int) < n := by omega
                  have HX := hide (fun h => all_upto HA.out hx h)
                  have HXN := hide (fun h => all_not (f := okKid (frmN N) 2) hm h)
                  have hop : okKid (frmN N) 2 x = (frmN N x && !decide (x.op = 2)) := by simp [okKid]
                  rw [hop] at HX HXN
                  clear hop
                  have HCx := hide (fun (w' : World) (hb' : Below wr.heap.size wr w') => HC.out x w' hm (hxr.keep hb'))
                  obtain ⟨fx, hfx⟩ : ∃ fx, fx = frmN N x := ⟨_, rfl⟩
                  rw [← hfx] at HX HXN HCx
                  clear hfx
                  clear hrd hkr hln hx hm hxr
                  obtain ⟨xo, xm, xl, xh, xA, xn, xc, xk⟩ := x
                  have a0 : wr.cell? ⟨b, oo + k * 5, none⟩ = some (.int .i64 xo) := h1 0 _ rfl
                  have a1 : wr.cell? ⟨b, oo + k * 5 + 1, none⟩ = some (.int .i64 xm) := h1 1 _ rfl
                  have a2 : wr.cell? ⟨b, oo + k * 5 + 2, none⟩ = some (.int .i64 xl) := h1 2 _ rfl
                  have a3 : wr.cell? ⟨b, oo + k * 5 + 3, none⟩ = some (.int .i64 xh) := h1 3 _ rfl
                  have a4 : wr.cell? ⟨b, oo + k * 5 + 4, none⟩ = some (.slice xA xn xc) := h1 4 _ rfl
                  clear h1
                  have HCy : Hid (∀ (w' : World), Below wr.heap.size wr w' → Calls Try.prog 66 #[.agg #[.int .i64 xo, .int .i64 xm, .int .i64 xl, .int .i64 xh, .slice xA xn xc]] w' fun e w'' => e = .returned (.bool fx) ∧ Below w'.heap.size w' w'') := HCx
                  clear HCx
                  cases fx
                  · go_wp2_with (go_at_call 66; refine (HCy.out _ (Below.alloc (Below.refl _ _) (Nat.le_refl _) _)).mono ?_; rintro e w4 ⟨rfl, hb0⟩; obtain ⟨q0, q1, q2, q3, q4⟩ := box5 hb0; have hb1 : Below wr.heap.size wr w4 := (Below.alloc (Below.refl _ _) (Nat.le_refl _) _).trans (hb0.mono (by simp)); have p0 := keept hb1 s0)
                    go_ret
                    exact ⟨by rw [HR3.out, HXN.out (by simp)] <;> rfl, (HO.out.keep hb1).below⟩
                  · by_cases hxo : xo = 2
                    · have HXO := hide hxo
                      subst hxo
                      go_wp2_with (go_at_call 66; refine (HCy.out _ (Below.alloc (Below.refl _ _) (Nat.le_refl _) _)).mono ?_; rintro e w4 ⟨rfl, hb0⟩; obtain ⟨q0, q1, q2, q3, q4⟩ := box5 hb0; have hb1 : Below wr.heap.size wr w4 := (Below.alloc (Below.refl _ _) (Nat.le_refl _) _).trans (hb0.mono (by simp)); have p0 := keept hb1 s0)
                      go_ret
                      exact ⟨by rw [HR3.out, HXN.out (by simp [Tst.op])] <;> rfl, (HO.out.keep hb1).below⟩
                    · have hxo' : (xo == 2) = false := by simpa using hxo
                      have HXO := hide hxo
                      clear hxo
                      go_wp2_with (go_at_call 66; refine (HCy.out _ (Below.alloc (Below.refl _ _) (Nat.le_refl _) _)).mono ?_; rintro e w4 ⟨rfl, hb0⟩; obtain ⟨q0, q1, q2, q3, q4⟩ := box5 hb0; have hb1 : Below wr.heap.size wr w4 := (Below.alloc (Below.refl _ _) (Nat.le_refl _) _).trans (hb0.mono (by simp)); have p0 := keept hb1 s0)
                      go_roundw
                      case rel => exact ⟨k + 1, by omega, by go_num, HX.out (by have h2 := HXO.out; simp [Tst.op, h2]), HO.out.keep hb1⟩
                      case measure => simp [intOf]; omega
                · have hfull : Hid (R = true) := by
                    show R = true
                    rw [HR3.out]; exact all_full HA.out (by have := HT.out.2.2; omega)
                  clear HR3 HA
                  go_wp2_with fail
                  go_ret
                  exact ⟨by rw [hfull.out] <;> rfl, hb⟩
            · have e3' : (hi == 0) = false := by simpa using e3
              have e3'' : (hi != 0) = true := by simpa using e3
              have HRF : Hid (R = false) := by
                show R = false
                rw [HR2.out, decide_eq_false (fun h => e3 h.2.2)]; simp
              clear e3
              subst e1 e2
              obtain ⟨w1, w2, w3, r1, r2, r3, r4, hb3⟩ := least_run (w.alloc (.cells #[.int .i64 2, .int .i64 0, .int .i64 0, .int .i64 hi, .slice A n c] 142)) (w.heap.size + 1) (by simp) 2 ⟨by decide, by decide⟩
              rw [show leastR 2 = 2 from rfl, show isOp 2 = true from rfl] at r4
              have hO := (OwnT.start w 2 0 0 hi (.slice A n c) 142).keep hb3
              have HO := hide hO
              have s0 := hO.s0
              have s1 := hO.s1
              have s2 := hO.s2
              have s3 := hO.s3
              have s4 := hO.s4
              have hwl : w.heap.size < w3.heap.size := World.block_lt_of_cell? w3 _ s0
              clear hO hb3
              have hmm := @run_makeMap Try.prog
              show Calls Try.prog 66 #[.agg #[.int .i64 2, .int .i64 0, .int .i64 0, .int .i64 hi, .slice A n c]] w _
              go_enter Try.func66, Try.ntmps66
              go_wp2_with fail
              go_ret
              exact ⟨by rw [HRF.out] <;> rfl, HO.out.below⟩
          · have e2' : (lo == 0) = false := by simpa using e2
            have e2'' : (lo != 0) = true := by simpa using e2
            have HRF : Hid (R = false) := by
              show R = false
              rw [HR2.out, decide_eq_false (fun h => e2 h.2.1)]; simp
            clear e2
            subst e1
            obtain ⟨w1, w2, w3, r1, r2, r3, r4, hb3⟩ := least_run (w.alloc (.cells #[.int .i64 2, .int .i64 0, .int .i64 lo, .int .i64 hi, .slice A n c] 142)) (w.heap.size + 1) (by simp) 2 ⟨by decide, by decide⟩
            rw [show leastR 2 = 2 from rfl, show isOp 2 = true from rfl] at r4
            have hO := (OwnT.start w 2 0 lo hi (.slice A n c) 142).keep hb3
            have HO := hide hO
            have s0 := hO.s0
            have s1 := hO.s1
            have s2 := hO.s2
            have s3 := hO.s3
            have s4 := hO.s4
            have hwl : w.heap.size < w3.heap.size := World.block_lt_of_cell? w3 _ s0
            clear hO hb3
            have hmm := @run_makeMap Try.prog
            show Calls Try.prog 66 #[.agg #[.int .i64 2, .int .i64 0, .int .i64 lo, .int .i64 hi, .slice A n c]] w _
            go_enter Try.func66, Try.ntmps66
            go_wp2_with fail
            go_ret
            exact ⟨by rw [HRF.out] <;> rfl, HO.out.below⟩
        · have e1' : (m == 0) = false := by simpa using e1
          have e1'' : (m != 0) = true := by simpa using e1
          have HRF : Hid (R = false) := by
            show R = false
            rw [HR2.out, decide_eq_false (fun h => e1 h.1)]; simp
          clear e1
          obtain ⟨w1, w2, w3, r1, r2, r3, r4, hb3⟩ := least_run (w.alloc (.cells #[.int .i64 2, .int .i64 m, .int .i64 lo, .int .i64 hi, .slice A n c] 142)) (w.heap.size + 1) (by simp) 2 ⟨by decide, by decide⟩
          rw [show leastR 2 = 2 from rfl, show isOp 2 = true from rfl] at r4
          have hO := (OwnT.start w 2 m lo hi (.slice A n c) 142).keep hb3
          have HO := hide hO
          have s0 := hO.s0
          have s1 := hO.s1
          have s2 := hO.s2
          have s3 := hO.s3
          have s4 := hO.s4
          have hwl : w.heap.size < w3.heap.size := World.block_lt_of_cell? w3 _ s0
          clear hO hb3
          have hmm := @run_makeMap Try.prog
          show Calls Try.prog 66 #[.agg #[.int .i64 2, .int .i64 m, .int .i64 lo, .int .i64 hi, .slice A n c]] w _
          go_enter Try.func66, Try.ntmps66
          go_wp2_with fail
          go_ret
          exact ⟨by rw [HRF.out] <;> rfl, HO.out.below⟩
    · have hR1 : R = (decide (2 ≤ n) && (l.all (okKid (frmN N) 3) && decide (m = 0 ∧ lo = 0 ∧ hi = 0))) := by rw [hR]; simp [least]
      have HR := hide hR1
      clear hR hR1
      by_cases hl : n < 2
      · have hl' : (n : Int) < 2 := by omega
        obtain ⟨w1, w2, w3, r1, r2, r3, r4, hb3⟩ := least_run (w.alloc (.cells #[.int .i64 3, .int .i64 m, .int .i64 lo, .int .i64 hi, .slice A n c] 142)) (w.heap.size + 1) (by simp) 3 ⟨by decide, by decide⟩
        rw [show leastR 3 = 2 from rfl, show isOp 3 = true from rfl] at r4
        have hO := (OwnT.start w 3 m lo hi (.slice A n c) 142).keep hb3
        have HO := hide hO
        have s0 := hO.s0
        have s1 := hO.s1
        have s2 := hO.s2
        have s3 := hO.s3
        have s4 := hO.s4
        have hwl : w.heap.size < w3.heap.size := World.block_lt_of_cell? w3 _ s0
        clear hO hb3
        have hmm := @run_makeMap Try.prog
        show Calls Try.prog 66 #[.agg #[.int .i64 3, .int .i64 m, .int .i64 lo, .int .i64 hi, .slice A n c]] w _
        go_enter Try.func66, Try.ntmps66
        go_wp2_with fail
        go_ret
        exact ⟨by rw [HR.out, decide_eq_false (by omega)] <;> rfl, HO.out.below⟩
      · have hl' : ¬ (n : Int) < 2 := by omega
        have HR2 : Hid (R = (l.all (okKid (frmN N) 3) && decide (m = 0 ∧ lo = 0 ∧ hi = 0))) := by
          show R = _
          rw [HR.out, decide_eq_true (by omega)]; simp
        clear HR
        by_cases e1 : m = 0
        · by_cases e2 : lo = 0
          · by_cases e3 : hi = 0
            · subst e1 e2 e3
              have HR3 : Hid (R = l.all (okKid (frmN N) 3)) := by
                show R = _
                rw [HR2.out]; simp
              clear HR2
              obtain ⟨w1, w2, w3, r1, r2, r3, r4, hb3⟩ := least_run (w.alloc (.cells #[.int .i64 3, .int .i64 0, .int .i64 0, .int .i64 0, .slice A n c] 142)) (w.heap.size + 1) (by simp) 3 ⟨by decide, by decide⟩
              rw [show leastR 3 = 2 from rfl, show isOp 3 = true from rfl] at r4
              have hO := (OwnT.start w 3 0 0 0 (.slice A n c) 142).keep hb3
              have HO := hide hO
              have s0 := hO.s0
              have s1 := hO.s1
              have s2 := hO.s2
              have s3 := hO.s3
              have s4 := hO.s4
              have hwl : w.heap.size < w3.heap.size := World.block_lt_of_cell? w3 _ s0
              clear hO hb3
              have hmm := @run_makeMap Try.prog
              show Calls Try.prog 66 #[.agg #[.int .i64 3, .int .i64 0, .int .i64 0, .int .i64 0, .slice A n c]] w _
              go_enter Try.func66, Try.ntmps66
              go_wp2_with fail
              go_loopw [51] (FrmRR (frmN N) l n w 3 0 0 0 (.slice A n c)) (fun v _ => n - (intOf v).toNat)
              case atStart => exact ⟨0, by omega, rfl, fun y hy => by simp at hy, HO.out⟩
              case round =>
                clear HO s0 s1 s2 s3 s4 hwl r1 r2 r3 r4
                obtain ⟨k, hk, rfl, hall, hO⟩ := hrel
                have HA := hide hall
                have HO := hide hO
                have hb := hO.below
                have s0 := hO.s0
                have hwl : w.heap.size < wr.heap.size := World.block_lt_of_cell? wr _ s0
                clear hall hO
                by_cases hlt : k < n
                · obtain ⟨hrd, hkr, hln⟩ := HT.out
                  obtain ⟨b, oo, x, rfl, hx, hm, h1⟩ := (hrd.keep hb).at_ (k := k) (by omega)
                  have hxr := (hkr x hm).keep hb
                  have hki : (k : Int) < n := by omega
                  have HX := hide (fun h => all_upto HA.out hx h)
                  have HXN := hide (fun h => all_not (f := okKid (frmN N) 3) hm h)
                  have hop : okKid (frmN N) 3 x = (frmN N x && !decide (x.op = 3)) := by simp [okKid]
                  rw [hop] at HX HXN
                  clear hop
                  have HCx := hide (fun (w' : World) (hb' : Below wr.heap.size wr w') => HC.out x w' hm (hxr.keep hb'))
                  obtain ⟨fx, hfx⟩ : ∃ fx, fx = frmN N x := ⟨_, rfl⟩
                  rw [← hfx] at HX HXN HCx
                  clear hfx
                  clear hrd hkr hln hx hm hxr
                  obtain ⟨xo, xm, xl, xh, xA, xn, xc, xk⟩ := x
                  have a0 : wr.cell? ⟨b, oo + k * 5, none⟩ = some (.int .i64 xo) := h1 0 _ rfl
                  have a1 : wr.cell? ⟨b, oo + k * 5 + 1, none⟩ = some (.int .i64 xm) := h1 1 _ rfl
                  have a2 : wr.cell? ⟨b, oo + k * 5 + 2, none⟩ = some (.int .i64 xl) := h1 2 _ rfl
                  have a3 : wr.cell? ⟨b, oo + k * 5 + 3, none⟩ = some (.int .i64 xh) := h1 3 _ rfl
                  have a4 : wr.cell? ⟨b, oo + k * 5 + 4, none⟩ = some (.slice xA xn xc) := h1 4 _ rfl
                  clear h1
                  have HCy : Hid (∀ (w' : World), Below wr.heap.size wr w' → Calls Try.prog 66 #[.agg #[.int .i64 xo, .int .i64 xm, .int .i64 xl, .int .i64 xh, .slice xA xn xc]] w' fun e w'' => e = .returned (.bool fx) ∧ Below w'.heap.size w' w'') := HCx
                  clear HCx
                  cases fx
                  · go_wp2_with (go_at_call 66; refine (HCy.out _ (Below.alloc (Below.refl _ _) (Nat.le_refl _) _)).mono ?_; rintro e w4 ⟨rfl, hb0⟩; obtain ⟨q0, q1, q2, q3, q4⟩ := box5 hb0; have hb1 : Below wr.heap.size wr w4 := (Below.alloc (Below.refl _ _) (Nat.le_refl _) _).trans (hb0.mono (by simp)); have p0 := keept hb1 s0)
                    go_ret
                    exact ⟨by rw [HR3.out, HXN.out (by simp)] <;> rfl, (HO.out.keep hb1).below⟩
                  · by_cases hxo : xo = 3
                    · have HXO := hide hxo
                      subst hxo
                      go_wp2_with (go_at_call 66; refine (HCy.out _ (Below.alloc (Below.refl _ _) (Nat.le_refl _) _)).mono ?_; rintro e w4 ⟨rfl, hb0⟩; obtain ⟨q0, q1, q2, q3, q4⟩ := box5 hb0; have hb1 : Below wr.heap.size wr w4 := (Below.alloc (Below.refl _ _) (Nat.le_refl _) _).trans (hb0.mono (by simp)); have p0 := keept hb1 s0)
                      go_ret
                      exact ⟨by rw [HR3.out, HXN.out (by simp [Tst.op])] <;> rfl, (HO.out.keep hb1).below⟩
                    · have hxo' : (xo == 3) = false := by simpa using hxo
                      have HXO := hide hxo
                      clear hxo
                      go_wp2_with (go_at_call 66; refine (HCy.out _ (Below.alloc (Below.refl _ _) (Nat.le_refl _) _)).mono ?_; rintro e w4 ⟨rfl, hb0⟩; obtain ⟨q0, q1, q2, q3, q4⟩ := box5 hb0; have hb1 : Below wr.heap.size wr w4 := (Below.alloc (Below.refl _ _) (Nat.le_refl _) _).trans (hb0.mono (by simp)); have p0 := keept hb1 s0)
                      go_roundw
                      case rel => exact ⟨k + 1, by omega, by go_num, HX.out (by have h2 := HXO.out; simp [Tst.op, h2]), HO.out.keep hb1⟩
                      case measure => simp [intOf]; omega
                · have hfull : Hid (R = true) := by
                    show R = true
                    rw [HR3.out]; exact all_full HA.out (by have := HT.out.2.2; omega)
                  clear HR3 HA
                  go_wp2_with fail
                  go_ret
                  exact ⟨by rw [hfull.out] <;> rfl, hb⟩
            · have e3' : (hi == 0) = false := by simpa using e3
              have e3'' : (hi != 0) = true := by simpa using e3
              have HRF : Hid (R = false) := by
                show R = false
                rw [HR2.out, decide_eq_false (fun h => e3 h.2.2)]; simp
              clear e3
              subst e1 e2
              obtain ⟨w1, w2, w3, r1, r2, r3, r4, hb3⟩ := least_run (w.alloc (.cells #[.int .i64 3, .int .i64 0, .int .i64 0, .int .i64 hi, .slice A n c] 142)) (w.heap.size + 1) (by simp) 3 ⟨by decide, by decide⟩
              rw [show leastR 3 = 2 from rfl, show isOp 3 = true from rfl] at r4
              have hO := (OwnT.start w 3 0 0 hi (.slice A n c) 142).keep hb3
              have HO := hide hO
              have s0 := hO.s0
              have s1 := hO.s1
              have s2 := hO.s2
              have s3 := hO.s3
              have s4 := hO.s4
              have hwl : w.heap.size < w3.heap.size := World.block_lt_of_cell? w3 _ s0
              clear hO hb3
              have hmm := @run_makeMap Try.prog
              show Calls Try.prog 66 #[.agg #[.int .i64 3, .int .i64 0, .int .i64 0, .int .i64 hi, .slice A n c]] w _
              go_enter Try.func66, Try.ntmps66
              go_wp2_with fail
              go_ret
              exact ⟨by rw [HRF.out] <;> rfl, HO.out.below⟩
          · have e2' : (lo == 0) = false := by simpa using e2
            have e2'' : (lo != 0) = true := by simpa using e2
            have HRF : Hid (R = false) := by
              show R = false
              rw [HR2.out, decide_eq_false (fun h => e2 h.2.1)]; simp
            clear e2
            subst e1
            obtain ⟨w1, w2, w3, r1, r2, r3, r4, hb3⟩ := least_run (w.alloc (.cells #[.int .i64 3, .int .i64 0, .int .i64 lo, .int .i64 hi, .slice A n c] 142)) (w.heap.size + 1) (by simp) 3 ⟨by decide, by decide⟩
            rw [show leastR 3 = 2 from rfl, show isOp 3 = true from rfl] at r4
            have hO := (OwnT.start w 3 0 lo hi (.slice A n c) 142).keep hb3
            have HO := hide hO
            have s0 := hO.s0
            have s1 := hO.s1
            have s2 := hO.s2
            have s3 := hO.s3
            have s4 := hO.s4
            have hwl : w.heap.size < w3.heap.size := World.block_lt_of_cell? w3 _ s0
            clear hO hb3
            have hmm := @run_makeMap Try.prog
            show Calls Try.prog 66 #[.agg #[.int .i64 3, .int .i64 0, .int .i64 lo, .int .i64 hi, .slice A n c]] w _
            go_enter Try.func66, Try.ntmps66
            go_wp2_with fail
            go_ret
            exact ⟨by rw [HRF.out] <;> rfl, HO.out.below⟩
        · have e1' : (m == 0) = false := by simpa using e1
          have e1'' : (m != 0) = true := by simpa using e1
          have HRF : Hid (R = false) := by
            show R = false
            rw [HR2.out, decide_eq_false (fun h => e1 h.1)]; simp
          clear e1
          obtain ⟨w1, w2, w3, r1, r2, r3, r4, hb3⟩ := least_run (w.alloc (.cells #[.int .i64 3, .int .i64 m, .int .i64 lo, .int .i64 hi, .slice A n c] 142)) (w.heap.size + 1) (by simp) 3 ⟨by decide, by decide⟩
          rw [show leastR 3 = 2 from rfl, show isOp 3 = true from rfl] at r4
          have hO := (OwnT.start w 3 m lo hi (.slice A n c) 142).keep hb3
          have HO := hide hO
          have s0 := hO.s0
          have s1 := hO.s1
          have s2 := hO.s2
          have s3 := hO.s3
          have s4 := hO.s4
          have hwl : w.heap.size < w3.heap.size := World.block_lt_of_cell? w3 _ s0
          clear hO hb3
          have hmm := @run_makeMap Try.prog
          show Calls Try.prog 66 #[.agg #[.int .i64 3, .int .i64 m, .int .i64 lo, .int .i64 hi, .slice A n c]] w _
          go_enter Try.func66, Try.ntmps66
          go_wp2_with fail
          go_ret
          exact ⟨by rw [HRF.out] <;> rfl, HO.out.below⟩
    · have hR1 : R = (decide (1 ≤ n) && (l.all (okKid (frmN N) 4) && decide (m = 0 ∧ lo = 0 ∧ hi = 0))) := by rw [hR]; simp [least]
      have HR := hide hR1
      clear hR hR1
      by_cases hl : n < 1
      · have hl' : (n : Int) < 1 := by omega
        obtain ⟨w1, w2, w3, r1, r2, r3, r4, hb3⟩ := least_run (w.alloc (.cells #[.int .i64 4, .int .i64 m, .int .i64 lo, .int .i64 hi, .slice A n c] 142)) (w.heap.size + 1) (by simp) 4 ⟨by decide, by decide⟩
        rw [show leastR 4 = 1 from rfl, show isOp 4 = true from rfl] at r4
        have hO := (OwnT.start w 4 m lo hi (.slice A n c) 142).keep hb3
        have HO := hide hO
        have s0 := hO.s0
        have s1 := hO.s1
        have s2 := hO.s2
        have s3 := hO.s3
        have s4 := hO.s4
        have hwl : w.heap.size < w3.heap.size := World.block_lt_of_cell? w3 _ s0
        clear hO hb3
        have hmm := @run_makeMap Try.prog
        show Calls Try.prog 66 #[.agg #[.int .i64 4, .int .i64 m, .int .i64 lo, .int .i64 hi, .slice A n c]] w _
        go_enter Try.func66, Try.ntmps66
        go_wp2_with fail
        go_ret
        exact ⟨by rw [HR.out, decide_eq_false (by omega)] <;> rfl, HO.out.below⟩
      · have hl' : ¬ (n : Int) < 1 := by omega
        have HR2 : Hid (R = (l.all (okKid (frmN N) 4) && decide (m = 0 ∧ lo = 0 ∧ hi = 0))) := by
          show R = _
          rw [HR.out, decide_eq_true (by omega)]; simp
        clear HR
        by_cases e1 : m = 0
        · by_cases e2 : lo = 0
          · by_cases e3 : hi = 0
            · subst e1 e2 e3
              have HR3 : Hid (R = l.all (okKid (frmN N) 4)) := by
                show R = _
                rw [HR2.out]; simp
              clear HR2
              obtain ⟨w1, w2, w3, r1, r2, r3, r4, hb3⟩ := least_run (w.alloc (.cells #[.int .i64 4, .int .i64 0, .int .i64 0, .int .i64 0, .slice A n c] 142)) (w.heap.size + 1) (by simp) 4 ⟨by decide, by decide⟩
              rw [show leastR 4 = 1 from rfl, show isOp 4 = true from rfl] at r4
              have hO := (OwnT.start w 4 0 0 0 (.slice A n c) 142).keep hb3
              have HO := hide hO
              have s0 := hO.s0
              have s1 := hO.s1
              have s2 := hO.s2
              have s3 := hO.s3
              have s4 := hO.s4
              have hwl : w.heap.size < w3.heap.size := World.block_lt_of_cell? w3 _ s0
              clear hO hb3
              have hmm := @run_makeMap Try.prog
              show Calls Try.prog 66 #[.agg #[.int .i64 4, .int .i64 0, .int .i64 0, .int .i64 0, .slice A n c]] w _
              go_enter Try.func66, Try.ntmps66
              go_wp2_with fail
              go_loopw [51] (FrmRR (frmN N) l n w 4 0 0 0 (.slice A n c)) (fun v _ => n - (intOf v).toNat)
              case atStart => exact ⟨0, by omega, rfl, fun y hy => by simp at hy, HO.out⟩
              case round =>
                clear HO s0 s1 s2 s3 s4 hwl r1 r2 r3 r4
                obtain ⟨k, hk, rfl, hall, hO⟩ := hrel
                have HA := hide hall
                have HO := hide hO
                have hb := hO.below
                have s0 := hO.s0
                have hwl : w.heap.size < wr.heap.size := World.block_lt_of_cell? wr _ s0
                clear hall hO
                by_cases hlt : k < n
                · obtain ⟨hrd, hkr, hln⟩ := HT.out
                  obtain ⟨b, oo, x, rfl, hx, hm, h1⟩ := (hrd.keep hb).at_ (k := k) (by omega)
                  have hxr := (hkr x hm).keep hb
                  have hki : (k : Int) < n := by omega
                  have HX := hide (fun h => all_upto HA.out hx h)
                  have HXN := hide (fun h => all_not (f := okKid (frmN N) 4) hm h)
                  have hop : okKid (frmN N) 4 x = (frmN N x && true) := by simp [okKid]
                  rw [hop] at HX HXN
                  clear hop
                  have HCx := hide (fun (w' : World) (hb' : Below wr.heap.size wr w') => HC.out x w' hm (hxr.keep hb'))
                  obtain ⟨fx, hfx⟩ : ∃ fx, fx = frmN N x := ⟨_, rfl⟩
                  rw [← hfx] at HX HXN HCx
                  clear hfx
                  clear hrd hkr hln hx hm hxr
                  obtain ⟨xo, xm, xl, xh, xA, xn, xc, xk⟩ := x
                  have a0 : wr.cell? ⟨b, oo + k * 5, none⟩ = some (.int .i64 xo) := h1 0 _ rfl
                  have a1 : wr.cell? ⟨b, oo + k * 5 + 1, none⟩ = some (.int .i64 xm) := h1 1 _ rfl
                  have a2 : wr.cell? ⟨b, oo + k * 5 + 2, none⟩ = some (.int .i64 xl) := h1 2 _ rfl
                  have a3 : wr.cell? ⟨b, oo + k * 5 + 3, none⟩ = some (.int .i64 xh) := h1 3 _ rfl
                  have a4 : wr.cell? ⟨b, oo + k * 5 + 4, none⟩ = some (.slice xA xn xc) := h1 4 _ rfl
                  clear h1
                  have HCy : Hid (∀ (w' : World), Below wr.heap.size wr w' → Calls Try.prog 66 #[.agg #[.int .i64 xo, .int .i64 xm, .int .i64 xl, .int .i64 xh, .slice xA xn xc]] w' fun e w'' => e = .returned (.bool fx) ∧ Below w'.heap.size w' w'') := HCx
                  clear HCx
                  cases fx
                  · go_wp2_with (go_at_call 66; refine (HCy.out _ (Below.alloc (Below.refl _ _) (Nat.le_refl _) _)).mono ?_; rintro e w4 ⟨rfl, hb0⟩; obtain ⟨q0, q1, q2, q3, q4⟩ := box5 hb0; have hb1 : Below wr.heap.size wr w4 := (Below.alloc (Below.refl _ _) (Nat.le_refl _) _).trans (hb0.mono (by simp)); have p0 := keept hb1 s0)
                    go_ret
                    exact ⟨by rw [HR3.out, HXN.out (by simp)] <;> rfl, (HO.out.keep hb1).below⟩
                  · by_cases hxo : xo = 4
                    · have HXO := hide hxo
                      subst hxo
                      go_wp2_with (go_at_call 66; refine (HCy.out _ (Below.alloc (Below.refl _ _) (Nat.le_refl _) _)).mono ?_; rintro e w4 ⟨rfl, hb0⟩; obtain ⟨q0, q1, q2, q3, q4⟩ := box5 hb0; have hb1 : Below wr.heap.size wr w4 := (Below.alloc (Below.refl _ _) (Nat.le_refl _) _).trans (hb0.mono (by simp)); have p0 := keept hb1 s0)
                      go_roundw
                      case rel => exact ⟨k + 1, by omega, by go_num, HX.out (by simp), HO.out.keep hb1⟩
                      case measure => simp [intOf]; omega
                    · have hxo' : (xo == 4) = false := by simpa using hxo
                      have HXO := hide hxo
                      clear hxo
                      go_wp2_with (go_at_call 66; refine (HCy.out _ (Below.alloc (Below.refl _ _) (Nat.le_refl _) _)).mono ?_; rintro e w4 ⟨rfl, hb0⟩; obtain ⟨q0, q1, q2, q3, q4⟩ := box5 hb0; have hb1 : Below wr.heap.size wr w4 := (Below.alloc (Below.refl _ _) (Nat.le_refl _) _).trans (hb0.mono (by simp)); have p0 := keept hb1 s0)
                      go_roundw
                      case rel => exact ⟨k + 1, by omega, by go_num, HX.out (by simp), HO.out.keep hb1⟩
                      case measure => simp [intOf]; omega
                · have hfull : Hid (R = true) := by
                    show R = true
                    rw [HR3.out]; exact all_full HA.out (by have := HT.out.2.2; omega)
                  clear HR3 HA
                  go_wp2_with fail
                  go_ret
                  exact ⟨by rw [hfull.out] <;> rfl, hb⟩
            · have e3' : (hi == 0) = false := by simpa using e3
              have e3'' : (hi != 0) = true := by simpa using e3
              have HRF : Hid (R = false) := by
                show R = false
                rw [HR2.out, decide_eq_false (fun h => e3 h.2.2)]; simp
              clear e3
              subst e1 e2
              obtain ⟨w1, w2, w3, r1, r2, r3, r4, hb3⟩ := least_run (w.alloc (.cells #[.int .i64 4, .int .i64 0, .int .i64 0, .int .i64 hi, .slice A n c] 142)) (w.heap.size + 1) (by simp) 4 ⟨by decide, by decide⟩
              rw [show leastR 4 = 1 from rfl, show isOp 4 = true from rfl] at r4
              have hO := (OwnT.start w 4 0 0 hi (.slice A n c) 142).keep hb3
              have HO := hide hO
              have s0 := hO.s0
              have s1 := hO.s1
              have s2 := hO.s2
              have s3 := hO.s3
              have s4 := hO.s4
              have hwl : w.heap.size < w3.heap.size := World.block_lt_of_cell? w3 _ s0
              clear hO hb3
              have hmm := @run_makeMap Try.prog
              show Calls Try.prog 66 #[.agg #[.int .i64 4, .int .i64 0, .int .i64 0, .int .i64 hi, .slice A n c]] w _
              go_enter Try.func66, Try.ntmps66
              go_wp2_with fail
              go_ret
              exact ⟨by rw [HRF.out] <;> rfl, HO.out.below⟩
          · have e2' : (lo == 0) = false := by simpa using e2
            have e2'' : (lo != 0) = true := by simpa using e2
            have HRF : Hid (R = false) := by
              show R = false
              rw [HR2.out, decide_eq_false (fun h => e2 h.2.1)]; simp
            clear e2
            subst e1
            obtain ⟨w1, w2, w3, r1, r2, r3, r4, hb3⟩ := least_run (w.alloc (.cells #[.int .i64 4, .int .i64 0, .int .i64 lo, .int .i64 hi, .slice A n c] 142)) (w.heap.size + 1) (by simp) 4 ⟨by decide, by decide⟩
            rw [show leastR 4 = 1 from rfl, show isOp 4 = true from rfl] at r4
            have hO := (OwnT.start w 4 0 lo hi (.slice A n c) 142).keep hb3
            have HO := hide hO
            have s0 := hO.s0
            have s1 := hO.s1
            have s2 := hO.s2
            have s3 := hO.s3
            have s4 := hO.s4
            have hwl : w.heap.size < w3.heap.size := World.block_lt_of_cell? w3 _ s0
            clear hO hb3
            have hmm := @run_makeMap Try.prog
            show Calls Try.prog 66 #[.agg #[.int .i64 4, .int .i64 0, .int .i64 lo, .int .i64 hi, .slice A n c]] w _
            go_enter Try.func66, Try.ntmps66
            go_wp2_with fail
            go_ret
            exact ⟨by rw [HRF.out] <;> rfl, HO.out.below⟩
        · have e1' : (m == 0) = false := by simpa using e1
          have e1'' : (m != 0) = true := by simpa using e1
          have HRF : Hid (R = false) := by
            show R = false
            rw [HR2.out, decide_eq_false (fun h => e1 h.1)]; simp
          clear e1
          obtain ⟨w1, w2, w3, r1, r2, r3, r4, hb3⟩ := least_run (w.alloc (.cells #[.int .i64 4, .int .i64 m, .int .i64 lo, .int .i64 hi, .slice A n c] 142)) (w.heap.size + 1) (by simp) 4 ⟨by decide, by decide⟩
          rw [show leastR 4 = 1 from rfl, show isOp 4 = true from rfl] at r4
          have hO := (OwnT.start w 4 m lo hi (.slice A n c) 142).keep hb3
          have HO := hide hO
          have s0 := hO.s0
          have s1 := hO.s1
          have s2 := hO.s2
          have s3 := hO.s3
          have s4 := hO.s4
          have hwl : w.heap.size < w3.heap.size := World.block_lt_of_cell? w3 _ s0
          clear hO hb3
          have hmm := @run_makeMap Try.prog
          show Calls Try.prog 66 #[.agg #[.int .i64 4, .int .i64 m, .int .i64 lo, .int .i64 hi, .slice A n c]] w _
          go_enter Try.func66, Try.ntmps66
          go_wp2_with fail
          go_ret
          exact ⟨by rw [HRF.out] <;> rfl, HO.out.below⟩
    · have hR1 : R = false := by rw [hR]; simp [n1, n2, n3, n4]
      have HR := hide hR1
      have HOP := hide (show isOp o = false by unfold isOp; simp [n2, n3, n4])
      have m1 : (o == 1) = false := by simpa using n1
      clear hR hR1 n1 n2 n3 n4
      obtain ⟨w1, w2, w3, r1, r2, r3, r4, hb3⟩ := least_run (w.alloc (.cells #[.int .i64 o, .int .i64 m, .int .i64 lo, .int .i64 hi, .slice A n c] 142)) (w.heap.size + 1) (by simp) o HO64.out
      rw [HOP.out] at r4
      have hO := (OwnT.start w o m lo hi (.slice A n c) 142).keep hb3
      have HO := hide hO
      have s0 := hO.s0
      have s1 := hO.s1
      have s2 := hO.s2
      have s3 := hO.s3
      have s4 := hO.s4
      have hwl : w.heap.size < w3.heap.size := World.block_lt_of_cell? w3 _ s0
      clear hO hb3
      have hmm := @run_makeMap Try.prog
      show Calls Try.prog 66 #[.agg #[.int .i64 o, .int .i64 m, .int .i64 lo, .int .i64 hi, .slice A n c]] w _
      go_enter Try.func66, Try.ntmps66
      go_wp2_with fail
      go_ret
      exact ⟨by rw [HR.out] <;> rfl, HO.out.below⟩
end Go.Proofs.Ytkldjnopapipfaa
