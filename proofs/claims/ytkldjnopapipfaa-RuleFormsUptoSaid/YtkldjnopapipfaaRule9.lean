/-
  The reference's testRange.
-/
import Derived.Test.YtkldjnopapipfaaRule8
namespace Go.Proofs.Ytkldjnopapipfaa
open Go.RowKit
set_option linter.unusedVariables false

def rngR : Nat → Tst → Bool
  | 0, _ => false
  | N + 1, .mk o m lo hi _ _ _ l => if o = 1 then rng m lo hi else !(l.any fun k => !rngR N k)

set_option maxHeartbeats 1000000 in
set_option maxRecDepth 100000 in
theorem refRange1_any (N : Nat) (t : Tst) (w : World) (ih : ∀ w', Below w.heap.size w w' → Calls Try.prog 67 #[t.val] w' fun e w'' => e = .returned (.bool (rngR N t)) ∧ Below w'.heap.size w' w'') :
    Calls Try.prog 108 #[t.val] w fun e w' => e = .returned (.bool (!rngR N t)) ∧ Below w.heap.size w w' := by
  have HI := hide (fun (w' : World) (hb' : Below w.heap.size w w') => calls_from hb' (ih w' hb'))
  clear ih
  obtain ⟨b, hb⟩ : ∃ b, b = rngR N t := ⟨_, rfl⟩
  rw [← hb] at HI ⊢
  clear hb
  obtain ⟨o, m, lo, hi, A, n, c, l⟩ := t
  have HJ : Hid (∀ (w' : World), Below w.heap.size w w' → Calls Try.prog 67 #[.agg #[.int .i64 o, .int .i64 m, .int .i64 lo, .int .i64 hi, .slice A n c]] w' fun e w'' => e = .returned (.bool b) ∧ Below w.heap.size w w'') := HI
  clear HI
  show Calls Try.prog 108 #[.agg #[.int .i64 o, .int .i64 m, .int .i64 lo, .int .i64 hi, .slice A n c]] w _
  go_enter Try.func108, Try.ntmps108
  go_wp2_with (go_at_call 67; refine (HJ.out _ (Below.alloc (Below.refl _ _) (Nat.le_refl _) _)).mono ?_; rintro e w1 ⟨rfl, hb1⟩)
  go_ret
  exact ⟨rfl, hb1⟩

set_option maxHeartbeats 4000000 in
set_option maxRecDepth 100000 in
theorem refRange_any : ∀ (N : Nat) (t : Tst) (w : World), TR w N t → Calls Try.prog 67 #[t.val] w fun e w' => e = .returned (.bool (rngR N t)) ∧ Below w.heap.size w w'
  | 0, _, _, h => by simp [TR] at h
  | N + 1, .mk o m lo hi A n c l, w, h => by
    obtain ⟨h1, h2, h3, h4, hn, hsl, hr, hk⟩ := h
    have hnb : n ≤ 100000000000000 := by have := hsl.nc; have := hsl.cb; omega
    have HC := hide (fun (w' : World) (hb' : Below w.heap.size w w') => calls_from hb' (containsFunc_range A n c l (fun k => !rngR N k) w' hn hnb (hr.keep hb') (fun x hx w2 hb2 =>
      refRange1_any N x w2 (fun w3 hb3 => refRange_any N x w3 ((((hk x hx).keep hb').keep hb2).keep hb3)))))
    clear hr hk hn h1 h2 h3 h4 hsl
    obtain ⟨R, hR⟩ : ∃ R, R = rngR (N + 1) (.mk o m lo hi A n c l) := ⟨_, rfl⟩
    rw [← hR]
    simp only [rngR] at hR
    obtain ⟨a, ha⟩ : ∃ a, a = l.any (fun k => !rngR N k) := ⟨_, rfl⟩
    rw [← ha] at HC hR
    clear ha
    show Calls Try.prog 67 #[.agg #[.int .i64 o, .int .i64 m, .int .i64 lo, .int .i64 hi, .slice A n c]] w _
    by_cases ho : o = 1
    · have HRR : Hid (R = rng m lo hi) := hR.trans (if_pos ho)
      clear hR HC
      subst ho
      go_enter Try.func67, Try.ntmps67
      rcases (by omega : m = 0 ∨ (m < 2 ∧ ¬ m = 0) ∨ 1000000 < m ∨ (2 ≤ m ∧ m ≤ 1000000)) with m1 | ⟨m1, m2⟩ | m1 | ⟨m1, m2⟩
      · subst m1
        rcases (by omega : lo < 0 ∨ (0 ≤ lo ∧ hi < lo) ∨ (0 ≤ lo ∧ lo ≤ hi ∧ 1000000000 < hi) ∨ (0 ≤ lo ∧ lo ≤ hi ∧ hi ≤ 1000000000)) with l1 | ⟨l1, l2⟩ | ⟨l1, l2, l3⟩ | ⟨l1, l2, l3⟩
        · have HV : Hid (rng 0 lo hi = false) := by unfold Hid rng; simp; omega
          have l1' : ¬ 0 ≤ lo := by omega
          go_wp2_with fail
          go_ret
          exact ⟨by rw [HRR.out, HV.out]; rfl, Below.alloc (Below.refl _ _) (Nat.le_refl _) _⟩
        · have HV : Hid (rng 0 lo hi = false) := by unfold Hid rng; simp; omega
          have l2' : ¬ lo ≤ hi := by omega
          go_wp2_with fail
          go_ret
          exact ⟨by rw [HRR.out, HV.out]; rfl, Below.alloc (Below.refl _ _) (Nat.le_refl _) _⟩
        · have HV : Hid (rng 0 lo hi = false) := by unfold Hid rng; simp; omega
          have l3' : ¬ hi ≤ 1000000000 := by omega
          go_wp2_with fail
          go_ret
          exact ⟨by rw [HRR.out, HV.out]; rfl, Below.alloc (Below.refl _ _) (Nat.le_refl _) _⟩
        · have HV : Hid (rng 0 lo hi = true) := by unfold Hid rng; simp; omega
          go_wp2_with fail
          go_ret
          exact ⟨by rw [HRR.out, HV.out]; rfl, Below.alloc (Below.refl _ _) (Nat.le_refl _) _⟩
      · have HV : Hid (rng m lo hi = false) := by unfold Hid rng; simp; omega
        have m0 : (m == 0) = false := by simpa using m2
        have m3 : ¬ 2 ≤ m := by omega
        clear m2
        go_wp2_with fail
        go_ret
        exact ⟨by rw [HRR.out, HV.out]; rfl, Below.alloc (Below.refl _ _) (Nat.le_refl _) _⟩
      · have HV : Hid (rng m lo hi = false) := by unfold Hid rng; simp; omega
        have m0 : (m == 0) = false := by simp; omega
        have m2 : 2 ≤ m := by omega
        have m3 : ¬ m ≤ 1000000 := by omega
        go_wp2_with fail
        go_ret
        exact ⟨by rw [HRR.out, HV.out]; rfl, Below.alloc (Below.refl _ _) (Nat.le_refl _) _⟩
      · have m0 : (m == 0) = false := by simp; omega
        rcases (by omega : lo < 0 ∨ (0 ≤ lo ∧ hi < lo) ∨ (0 ≤ lo ∧ lo ≤ hi ∧ 1000000000 < hi) ∨ (0 ≤ lo ∧ lo ≤ hi ∧ hi ≤ 1000000000)) with l1 | ⟨l1, l2⟩ | ⟨l1, l2, l3⟩ | ⟨l1, l2, l3⟩
        · have HV : Hid (rng m lo hi = false) := by unfold Hid rng; simp; omega
          have l1' : ¬ 0 ≤ lo := by omega
          go_wp2_with fail
          go_ret
          exact ⟨by rw [HRR.out, HV.out]; rfl, Below.alloc (Below.refl _ _) (Nat.le_refl _) _⟩
        · have HV : Hid (rng m lo hi = false) := by unfold Hid rng; simp; omega
          have l2' : ¬ lo ≤ hi := by omega
          go_wp2_with fail
          go_ret
          exact ⟨by rw [HRR.out, HV.out]; rfl, Below.alloc (Below.refl _ _) (Nat.le_refl _) _⟩
        · have HV : Hid (rng m lo hi = false) := by unfold Hid rng; simp; omega
          have l3' : ¬ hi ≤ 1000000000 := by omega
          go_wp2_with fail
          go_ret
          exact ⟨by rw [HRR.out, HV.out]; rfl, Below.alloc (Below.refl _ _) (Nat.le_refl _) _⟩
        · have HV : Hid (rng m lo hi = true) := by unfold Hid rng; simp; omega
          go_wp2_with fail
          go_ret
          exact ⟨by rw [HRR.out, HV.out]; rfl, Below.alloc (Below.refl _ _) (Nat.le_refl _) _⟩
    · have HRR : Hid (R = !a) := hR.trans (if_neg ho)
      have ho' : (o == 1) = false := by simpa using ho
      clear hR ho
      go_enter Try.func67, Try.ntmps67
      go_wp2_with (go_at_call 107; refine (HC.out _ (Below.alloc (Below.refl _ _) (Nat.le_refl _) _)).mono ?_; rintro e w1 ⟨rfl, hb1⟩)
      go_ret
      exact ⟨by rw [HRR.out]; rfl, hb1⟩
end Go.Proofs.Ytkldjnopapipfaa
