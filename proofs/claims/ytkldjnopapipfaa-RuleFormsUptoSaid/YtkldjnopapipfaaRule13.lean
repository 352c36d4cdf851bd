/-
  The reference's RuleFault.
-/
import Derived.Test.YtkldjnopapipfaaRule10b
import Derived.Test.YtkldjnopapipfaaRule12
namespace Go.Proofs.Ytkldjnopapipfaa
open Go.RowKit
set_option linter.unusedVariables false

theorem all_congr {α : Type} {f g : α → Bool} : ∀ {l : List α}, (∀ x ∈ l, f x = g x) → l.all f = l.all g
  | [], _ => rfl
  | a :: l, h => by simp only [List.all_cons]; rw [h a (List.mem_cons_self), all_congr fun x hx => h x (List.mem_cons_of_mem _ hx)]
theorem rngR_eq {w : World} : ∀ (N : Nat) (t : Tst), TR w N t → frmN N t = true → rngR N t = rngN N t
  | 0, _, h, _ => by simp [TR] at h
  | N + 1, .mk o m lo hi A n c l, h, hf => by
    obtain ⟨_, _, _, _, hn, _, _, hk⟩ := h
    simp only [frmN] at hf
    simp only [rngR, rngN]
    by_cases ho : o = 1
    · rw [if_pos ho] at hf
      have hl : l = [] := List.eq_nil_of_length_eq_zero (by have := of_decide_eq_true hf; omega)
      subst hl
      rw [if_pos ho]
      simp [ho]
    · rw [if_neg ho] at hf
      simp only [Bool.and_eq_true, List.all_eq_true] at hf
      rw [if_neg ho]
      have e : l.all (rngN N) = !(l.any fun k => !rngR N k) := by
        rw [List.not_any_eq_all_not]
        simp only [Bool.not_not]
        refine all_congr fun x hx => ?_
        have hfx : frmN N x = true := by have := hf.2.2.1 x hx; simp only [okKid, Bool.and_eq_true] at this; exact this.1
        exact (rngR_eq N x (hk x hx) hfx).symm
      rw [← e]
      simp [ho]

theorem all_take_succ {f : Tst → Bool} {l : List Tst} {k : Nat} {x : Tst} (h : l[k]? = some x) : (l.take (k + 1)).all f = ((l.take k).all f && f x) := by
  rw [List.take_add_one, h]; simp
theorem all_take_full {f : Tst → Bool} {l : List Tst} {k : Nat} (h : l.length ≤ k) : (l.take k).all f = l.all f := by rw [List.take_of_length_le h]
/-- What the loop has found among the first k forms. -/
def RfRel (N : Nat) (l : List Tst) (n : Nat) (w : World) (v3 v4 v5 v17 : Value) (wr : World) : Prop :=
  ∃ (k : Nat) (d f g : Bool), k ≤ n ∧ v17 = .int .i64 k ∧ v3 = .bool d ∧ v4 = .bool f ∧ v5 = .bool g ∧ (∀ y ∈ l.take k, okCnt N y = true) ∧ d = !(l.take k).all (okLv N) ∧ f = (l.take k).all (frmN N) ∧ g = (l.take k).all (rngR N) ∧ Below w.heap.size w wr

theorem fault_end {N : Nat} {l : List Tst} {w : World} (hk : ∀ x ∈ l, TR w N x) (h6 : ¬ 6 < l.length) (hc : l.all (okCnt N) = true) :
    fault N l = if (!l.all (okLv N)) = true then 13 else if l.all (frmN N) = false then 1 else if l.all (rngR N) = false then 2 else 0 := by
  unfold fault
  rw [if_neg h6, if_neg (by rw [hc]; simp)]
  by_cases hf : l.all (frmN N) = false
  · rw [if_pos hf, if_pos hf]
    cases l.all (okLv N) <;> rfl
  · rw [Bool.not_eq_false, List.all_eq_true] at hf
    have e : l.all (rngN N) = l.all (rngR N) := all_congr fun x hx => (rngR_eq N x (hk x hx) (hf x hx)).symm
    rw [e]
    cases l.all (okLv N) <;> rfl

set_option maxHeartbeats 8000000 in
set_option maxRecDepth 100000 in
theorem refFault_any (N : Nat) (A : Option Addr) (n c : Nat) (l : List Tst) (w : World) (hn : l.length = n) (hsl : SlOk A n c 56) (hr : Rd w 5 Tst.cells A l) (hk : ∀ x ∈ l, TR w N x) (hc : ∀ x ∈ l, cntN N x ≤ 2000000) :
    Calls Try.prog 21 #[.agg #[.slice A n c]] w fun e w' => e = .returned (.int .i64 (fault N l)) ∧ Below w.heap.size w w' := by
  have hnb : n ≤ 100000000000000 := by have := hsl.nc; have := hsl.cb; omega
  have HT := hide (And.intro hc (And.intro hr (And.intro hk hn)))
  have HE := hide (fun h6 h => fault_end (N := N) (l := l) hk h6 h)
  have HL := hide (fun (h : l.all (okCnt N) = false) => show fault N l = 4 by unfold fault; split <;> first | rfl | (rw [if_pos h]))
  have HL6 := hide (fun (h : 6 < l.length) => show fault N l = 4 from if_pos h)
  obtain ⟨R, hR⟩ : ∃ R, R = fault N l := ⟨_, rfl⟩
  rw [← hR] at HE HL HL6 ⊢
  clear hr hk hn hsl hc hR
  by_cases h6 : 6 < n
  · have h6' : (6 : Int) < n := by omega
    have HR := hide (HL6.out (by have := HT.out.2.2.2; omega))
    clear h6
    go_enter Try.func21, Try.ntmps21
    go_wp2_with fail
    go_ret
    exact ⟨by rw [HR.out] <;> rfl, Below.alloc (Below.refl _ _) (Nat.le_refl _) _⟩
  · have h6' : ¬ (6 : Int) < n := by omega
    go_enter Try.func21, Try.ntmps21
    go_wp2_with fail
    go_loopw [3, 4, 5, 17] (RfRel N l n w) (fun _ _ _ v _ => n - (intOf v).toNat)
    case atStart => exact ⟨0, false, true, true, by omega, rfl, rfl, rfl, rfl, fun y hy => by simp at hy, by simp, by simp, by simp, Below.alloc (Below.refl _ _) (Nat.le_refl _) _⟩
    case round =>
      obtain ⟨k, d, f, g, hk, rfl, rfl, rfl, rfl, hall, hd, hf, hg, hb⟩ := hrel
      have HA := hide hall
      have HD := hide hd
      have HF := hide hf
      have HG := hide hg
      clear hall hd hf hg
      by_cases hlt : k < n
      · obtain ⟨_, hrd, hkr, hln⟩ := HT.out
        obtain ⟨b, oo, x, rfl, hx, hm, h1⟩ := (hrd.keep hb).at_ (k := k) (by omega)
        have hxr := (hkr x hm).keep hb
        have hki : (k : Int) < n := by omega
        have HX := hide (fun h => all_upto (f := okCnt N) HA.out hx h)
        have HXN := hide (fun h => all_not (f := okCnt N) hm h)
        have HD2 := hide (show (!(l.take (k + 1)).all (okLv N)) = (d || !okLv N x) by rw [all_take_succ hx, HD.out]; simp)
        have HF2 := hide (show (l.take (k + 1)).all (frmN N) = (f && frmN N x) by rw [all_take_succ hx, HF.out])
        have HG2 := hide (show (l.take (k + 1)).all (rngR N) = (g && rngR N x) by rw [all_take_succ hx, HG.out])
        have HC1 := hide (fun (w' : World) (hb' : Below wr.heap.size wr w') => testsIn_any N x w' (hxr.keep hb') (HT.out.1 x hm))
        have HC2 := hide (fun (w' : World) (hb' : Below wr.heap.size wr w') => refForm_any N x w' (hxr.keep hb'))
        have HC3 := hide (fun (w' : World) (hb' : Below wr.heap.size wr w') => refRange_any N x w' (hxr.keep hb'))
        obtain ⟨cx, hcx⟩ : ∃ cx, cx = cntN N x := ⟨_, rfl⟩
        obtain ⟨lx, hlx⟩ : ∃ lx, lx = lvN N x := ⟨_, rfl⟩
        obtain ⟨fx, hfx⟩ : ∃ fx, fx = frmN N x := ⟨_, rfl⟩
        obtain ⟨gx, hgx⟩ : ∃ gx, gx = rngR N x := ⟨_, rfl⟩
        have hp1 : okCnt N x = decide (cx ≤ 20) := by rw [hcx]; rfl
        have hp2 : okLv N x = decide (lx ≤ 12) := by rw [hlx]; rfl
        rw [← hcx, ← hlx] at HC1
        rw [← hfx] at HC2 HF2
        rw [← hgx] at HC3 HG2
        rw [hp1] at HX HXN
        rw [hp2] at HD2
        clear hcx hlx hfx hgx hp1 hp2 HD HF HG
        clear hrd hkr hln hx hm hxr
        obtain ⟨xo, xm, xl, xh, xA, xn, xc, xk⟩ := x
        have a0 : wr.cell? ⟨b, oo + k * 5, none⟩ = some (.int .i64 xo) := h1 0 _ rfl
        have a1 : wr.cell? ⟨b, oo + k * 5 + 1, none⟩ = some (.int .i64 xm) := h1 1 _ rfl
        have a2 : wr.cell? ⟨b, oo + k * 5 + 2, none⟩ = some (.int .i64 xl) := h1 2 _ rfl
        have a3 : wr.cell? ⟨b, oo + k * 5 + 3, none⟩ = some (.int .i64 xh) := h1 3 _ rfl
        have a4 : wr.cell? ⟨b, oo + k * 5 + 4, none⟩ = some (.slice xA xn xc) := h1 4 _ rfl
        clear h1
        have HC1y : Hid (∀ (w' : World), Below wr.heap.size wr w' → Calls Try.prog 65 #[.agg #[.int .i64 xo, .int .i64 xm, .int .i64 xl, .int .i64 xh, .slice xA xn xc]] w' fun e w'' => e = .returned (.tuple #[.int .i64 cx, .int .i64 lx]) ∧ Below w'.heap.size w' w'') := HC1
        have HC2y : Hid (∀ (w' : World), Below wr.heap.size wr w' → Calls Try.prog 66 #[.agg #[.int .i64 xo, .int .i64 xm, .int .i64 xl, .int .i64 xh, .slice xA xn xc]] w' fun e w'' => e = .returned (.bool fx) ∧ Below w'.heap.size w' w'') := HC2
        have HC3y : Hid (∀ (w' : World), Below wr.heap.size wr w' → Calls Try.prog 67 #[.agg #[.int .i64 xo, .int .i64 xm, .int .i64 xl, .int .i64 xh, .slice xA xn xc]] w' fun e w'' => e = .returned (.bool gx) ∧ Below w'.heap.size w' w'') := HC3
        clear HC1 HC2 HC3
        by_cases h20 : cx ≤ 20
        · have h20' : ¬ (20 : Int) < cx := by omega
          have HDD := hide (show (decide ((12 : Int) < lx)) = !decide (lx ≤ 12) by by_cases h : lx ≤ 12 <;> simp [h] <;> omega)
          cases d <;> cases f <;> cases g
          all_goals
            go_wp2_with (first
              | (go_at_call 65; refine (HC1y.out _ (Below.alloc (Below.refl _ _) (Nat.le_refl _) _)).mono ?_; rintro e w1 ⟨rfl, hb0⟩; obtain ⟨q0, q1, q2, q3, q4⟩ := box5 hb0; have hb1 : Below wr.heap.size wr w1 := (Below.alloc (Below.refl _ _) (Nat.le_refl _) _).trans (hb0.mono (by simp)); clear hb0)
              | (go_at_call 66; refine (HC2y.out _ hb1).mono ?_; rintro e w2 ⟨rfl, hb2⟩; obtain ⟨r0, r1, r2, r3, r4⟩ := keep5 hb2 ⟨q0, q1, q2, q3, q4⟩; have hb3 : Below wr.heap.size wr w2 := hb1.trans (hb2.mono hb1.size); clear hb1 hb2)
              | (go_at_call 67; refine (HC3y.out _ (by assumption)).mono ?_; rintro e w3 ⟨rfl, hb4⟩; have hb5 : Below wr.heap.size wr w3 := (by first | exact hb3.trans (hb4.mono hb3.size) | exact hb1.trans (hb4.mono hb1.size)); clear hb4))
            go_roundw
            case rel => exact ⟨k + 1, _, _, _, by omega, by go_num, rfl, rfl, rfl, HX.out (decide_eq_true h20), by rw [HD2.out, ← HDD.out] <;> rfl, by rw [HF2.out] <;> rfl, by rw [HG2.out] <;> rfl, hb.trans (Below.mono (by assumption) hb.size)⟩
            case measure => simp [intOf]; omega
        · have h20' : (20 : Int) < cx := by omega
          go_wp2_with (go_at_call 65; refine (HC1y.out _ (Below.alloc (Below.refl _ _) (Nat.le_refl _) _)).mono ?_; rintro e w1 ⟨rfl, hb0⟩; have hb1 : Below wr.heap.size wr w1 := (Below.alloc (Below.refl _ _) (Nat.le_refl _) _).trans (hb0.mono (by simp)); clear hb0)
          go_ret
          exact ⟨by rw [HL.out (HXN.out (decide_eq_false h20))] <;> rfl, hb.trans (hb1.mono hb.size)⟩
      · have hfin := hide (HE.out (by have := HT.out.2.2.2; omega) (all_full HA.out (by have := HT.out.2.2.2; omega)))
        rw [← all_take_full (f := okLv N) (k := k) (by have := HT.out.2.2.2; omega), ← all_take_full (f := frmN N) (k := k) (by have := HT.out.2.2.2; omega), ← all_take_full (f := rngR N) (k := k) (by have := HT.out.2.2.2; omega), ← HD.out, ← HF.out, ← HG.out] at hfin
        clear HD HF HG HE HL HL6 HA
        cases d <;> cases f <;> cases g
        all_goals
          go_wp2_with fail
          go_ret
          exact ⟨by rw [hfin.out] <;> rfl, hb⟩
end Go.Proofs.Ytkldjnopapipfaa
