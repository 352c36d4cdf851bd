/-
  lang.testRange: whether the numbers of a test, and of its kids, are within their bounds.
-/
import Derived.Test.YtkldjnopapipfaaRule2
namespace Go.Proofs.Ytkldjnopapipfaa
open Go.RowKit
set_option linter.unusedVariables false

def rng (m lo hi : Int) : Bool := decide ((m = 0 ∨ (2 ≤ m ∧ m ≤ 1000000)) ∧ 0 ≤ lo ∧ lo ≤ hi ∧ hi ≤ 1000000000)
def rngN : Nat → Tst → Bool
  | 0, _ => false
  | N + 1, .mk o m lo hi _ _ _ l => l.all (rngN N) && (decide (o ≠ 1) || rng m lo hi)
def RngRel (f : Tst → Bool) (l : List Tst) (n : Nat) (w : World) (o m lo hi : Int) (u : Value) (v : Value) (wr : World) : Prop :=
  ∃ k : Nat, k ≤ n ∧ v = .int .i64 k ∧ (∀ y ∈ l.take k, f y = true) ∧ OwnT w wr o m lo hi u

set_option maxHeartbeats 4000000 in
set_option maxRecDepth 100000 in
theorem testRange_any : ∀ (N : Nat) (t : Tst) (w : World), TR w N t → cntN N t ≤ 2000000 → Calls Try.prog 104 #[t.val] w fun e w' => e = .returned (.bool (rngN N t)) ∧ Below w.heap.size w w'
  | 0, _, _, h, _ => by simp [TR] at h
  | N + 1, .mk o m lo hi A n c l, w, h, hc => by
    have hcl : (l.map (cntN N)).sum ≤ 2000000 := by simp only [cntN] at hc; omega
    have HC : Hid (∀ x w', x ∈ l → TR w' N x → Calls Try.prog 104 #[x.val] w' fun e w'' => e = .returned (.bool (rngN N x)) ∧ Below w'.heap.size w' w'') := fun x w' hx hr => testRange_any N x w' hr (by have := kid_cnt (N := N) hx; omega)
    obtain ⟨h1, h2, h3, h4, hn, hsl, hr, hk⟩ := h
    have hnb : n ≤ 100000000000000 := by have := hsl.nc; have := hsl.cb; omega
    have HT := hide (And.intro hcl (And.intro hr (And.intro hk hn)))
    clear hr hk hn h1 h2 h3 h4 hsl hc hcl
    obtain ⟨R, hR⟩ : ∃ R, R = rngN (N + 1) (.mk o m lo hi A n c l) := ⟨_, rfl⟩
    rw [← hR]
    simp only [rngN] at hR
    have HR2 := hide hR
    clear hR
    show Calls Try.prog 104 #[.agg #[.int .i64 o, .int .i64 m, .int .i64 lo, .int .i64 hi, .slice A n c]] w _
    go_enter Try.func104, Try.ntmps104
    go_wp2_with fail
    go_loopw [8] (RngRel (rngN N) l n w o m lo hi (.slice A n c)) (fun v _ => n - (intOf v).toNat)
    case atStart => exact ⟨0, by omega, rfl, fun y hy => by simp at hy, OwnT.start _ _ _ _ _ _ _⟩
    case round =>
      obtain ⟨k, hk, rfl, hall, hO⟩ := hrel
      have HA := hide hall
      have HO := hide hO
      have hb := hO.below
      have s0 := hO.s0
      have s1 := hO.s1
      have s2 := hO.s2
      have s3 := hO.s3
      have hwl : w.heap.size < wr.heap.size := World.block_lt_of_cell? wr _ s0
      clear hall hO
      by_cases hlt : k < n
      · obtain ⟨_, hrd, hkr, hln⟩ := HT.out
        obtain ⟨b, oo, x, rfl, hx, hm, h1⟩ := (hrd.keep hb).at_ (k := k) (by omega)
        have hxr := (hkr x hm).keep hb
        have hki : (k : Int) < n := by omega
        have HX := hide (fun h => all_upto HA.out hx h)
        have HXN := hide (fun h => all_not (f := rngN N) hm h)
        have HCx := hide (fun (w' : World) (hb' : Below wr.heap.size wr w') => calls_from hb' (HC.out x w' hm (hxr.keep hb')))
        obtain ⟨fx, hfx⟩ : ∃ fx, fx = rngN N x := ⟨_, rfl⟩
        rw [← hfx] at HX HXN HCx
        clear hfx
        clear hrd hkr hln hx hm hxr
        obtain ⟨xo, xm, xl, xh, xA, xn, xc, xk⟩ := x
        have a0 : wr.cell? ⟨b, oo + k * 5, none⟩ = some (.int .i64 xo) := h1 0 _ rfl
        have a1 : wr.cell? ⟨b, oo + k * 5 + 1, none⟩ = some (.int .i64 xm) := h1 1 _ rfl
        have a2 : wr.cell? ⟨b, oo + k * 5 + 2, none⟩ = some (.int .i64 xl) := h1 2 _ rfl
        have a3 : wr.cell? ⟨b, oo + k * 5 + 3, none⟩ = some (.int .i64 xh) := h1 3 _ rfl
        have a4 : wr.cell? ⟨b, oo + k * 5 + 4, none⟩ = some (.slice xA xn xc) := h1 4 _ rfl
        clear h1
        have HCy : Hid (∀ (w' : World), Below wr.heap.size wr w' → Calls Try.prog 104 #[.agg #[.int .i64 xo, .int .i64 xm, .int .i64 xl, .int .i64 xh, .slice xA xn xc]] w' fun e w'' => e = .returned (.bool fx) ∧ Below wr.heap.size wr w'') := HCx
        clear HCx
        cases fx
        · go_wp2_with (go_at_call 104; refine (HCy.out _ (Below.alloc (Below.refl _ _) (Nat.le_refl _) _)).mono ?_; rintro e w1 ⟨rfl, hb1⟩)
          go_ret
          exact ⟨by rw [HR2.out, HXN.out (by simp)]; rfl, (HO.out.keep hb1).below⟩
        · go_wp2_with (go_at_call 104; refine (HCy.out _ (Below.alloc (Below.refl _ _) (Nat.le_refl _) _)).mono ?_; rintro e w1 ⟨rfl, hb1⟩)
          go_roundw
          case rel => exact ⟨k + 1, by omega, by go_num, HX.out (by simp), HO.out.keep hb1⟩
          case measure => simp [intOf]; omega
      · have hfull : l.all (rngN N) = true := all_full HA.out (by have := HT.out.2.2.2; omega)
        by_cases ho : o = 1
        · have HRR : Hid (R = rng m lo hi) := by
            show R = _
            rw [HR2.out, hfull, ho]; simp
          clear hfull HR2 HA
          subst ho
          rcases (by omega : m = 0 ∨ (m < 2 ∧ ¬ m = 0) ∨ 1000000 < m ∨ (2 ≤ m ∧ m ≤ 1000000)) with m1 | ⟨m1, m2⟩ | m1 | ⟨m1, m2⟩
          · subst m1
            rcases (by omega : lo < 0 ∨ (0 ≤ lo ∧ hi < lo) ∨ (0 ≤ lo ∧ lo ≤ hi ∧ 1000000000 < hi) ∨ (0 ≤ lo ∧ lo ≤ hi ∧ hi ≤ 1000000000)) with l1 | ⟨l1, l2⟩ | ⟨l1, l2, l3⟩ | ⟨l1, l2, l3⟩
            · have HV : Hid (rng 0 lo hi = false) := by unfold Hid rng; simp; omega
              have l1' : ¬ 0 ≤ lo := by omega
              go_wp2_with fail
              go_ret
              exact ⟨by rw [HRR.out, HV.out]; rfl, hb⟩
            · have HV : Hid (rng 0 lo hi = false) := by unfold Hid rng; simp; omega
              have l2' : ¬ lo ≤ hi := by omega
              go_wp2_with fail
              go_ret
              exact ⟨by rw [HRR.out, HV.out]; rfl, hb⟩
            · have HV : Hid (rng 0 lo hi = false) := by unfold Hid rng; simp; omega
              have l3' : ¬ hi ≤ 1000000000 := by omega
              go_wp2_with fail
              go_ret
              exact ⟨by rw [HRR.out, HV.out]; rfl, hb⟩
            · have HV : Hid (rng 0 lo hi = true) := by unfold Hid rng; simp; omega
              go_wp2_with fail
              go_ret
              exact ⟨by rw [HRR.out, HV.out]; rfl, hb⟩
          · have HV : Hid (rng m lo hi = false) := by unfold Hid rng; simp; omega
            have m0 : (m == 0) = false := by simpa using m2
            have m3 : ¬ 2 ≤ m := by omega
            clear m2
            go_wp2_with fail
            go_ret
            exact ⟨by rw [HRR.out, HV.out]; rfl, hb⟩
          · have HV : Hid (rng m lo hi = false) := by unfold Hid rng; simp; omega
            have m0 : (m == 0) = false := by simp; omega
            have m2 : 2 ≤ m := by omega
            have m3 : ¬ m ≤ 1000000 := by omega
            go_wp2_with fail
            go_ret
            exact ⟨by rw [HRR.out, HV.out]; rfl, hb⟩
          · have m0 : (m == 0) = false := by simp; omega
            rcases (by omega : lo < 0 ∨ (0 ≤ lo ∧ hi < lo) ∨ (0 ≤ lo ∧ lo ≤ hi ∧ 1000000000 < hi) ∨ (0 ≤ lo ∧ lo ≤ hi ∧ hi ≤ 1000000000)) with l1 | ⟨l1, l2⟩ | ⟨l1, l2, l3⟩ | ⟨l1, l2, l3⟩
            · have HV : Hid (rng m lo hi = false) := by unfold Hid rng; simp; omega
              have l1' : ¬ 0 ≤ lo := by omega
              go_wp2_with fail
              go_ret
              exact ⟨by rw [HRR.out, HV.out]; rfl, hb⟩
            · have HV : Hid (rng m lo hi = false) := by unfold Hid rng; simp; omega
              have l2' : ¬ lo ≤ hi := by omega
              go_wp2_with fail
              go_ret
              exact ⟨by rw [HRR.out, HV.out]; rfl, hb⟩
            · have HV : Hid (rng m lo hi = false) := by unfold Hid rng; simp; omega
              have l3' : ¬ hi ≤ 1000000000 := by omega
              go_wp2_with fail
              go_ret
              exact ⟨by rw [HRR.out, HV.out]; rfl, hb⟩
            · have HV : Hid (rng m lo hi = true) := by unfold Hid rng; simp; omega
              go_wp2_with fail
              go_ret
              exact ⟨by rw [HRR.out, HV.out]; rfl, hb⟩
        · have HRR : Hid (R = true) := by
            show R = _
            rw [HR2.out, hfull]; simp [ho]
          have ho' : (o != 1) = true := by simpa using ho
          clear hfull HR2 HA ho
          go_wp2_with fail
          go_ret
          exact ⟨by rw [HRR.out]; rfl, hb⟩
end Go.Proofs.Ytkldjnopapipfaa
