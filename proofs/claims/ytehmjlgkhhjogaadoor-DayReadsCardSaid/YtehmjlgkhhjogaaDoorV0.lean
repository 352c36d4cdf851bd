/-
  Days as strings: plain law.
-/
import Derived.Test.YtehmjlgkhhjogaaDoorS3
namespace Go.Proofs.YtehmjlgkhhjogaaDoor
open Go.RowKit
set_option linter.unusedVariables false
set_option linter.unusedSimpArgs false
theorem ten {s : ByteArray} (h : s.size = 10) : ∃ c0 c1 c2 c3 c4 c5 c6 c7 c8 c9 : UInt8, s = ⟨#[c0, c1, c2, c3, c4, c5, c6, c7, c8, c9]⟩ := by
  cases s with | mk d =>
  cases d with | mk l =>
  match l, h with
  | [c0, c1, c2, c3, c4, c5, c6, c7, c8, c9], _ => exact ⟨_, _, _, _, _, _, _, _, _, _, rfl⟩
/-- A digit's number, as the code reckons it. -/
def dw (s : ByteArray) (k : Nat) : Int := IntKind.u8.wrap (((bAt s k).toNat : Int) - 48)
theorem dw_range (s : ByteArray) (k : Nat) : 0 ≤ dw s k ∧ dw s k < 256 := by
  unfold dw
  simp only [IntKind.wrap, IntKind.bits, IntKind.signed]
  simp
  omega
theorem dw_eq {s : ByteArray} {k : Nat} (h : digitB (bAt s k) = true) : dw s k = ((bAt s k).toNat : Int) - 48 := by
  have := digitB_iff.1 h
  unfold dw
  simp only [IntKind.wrap, IntKind.bits, IntKind.signed]
  simp
  omega
/-- The places of digits in a day. -/
def dgAt (s : ByteArray) (k : Nat) : Bool := decide (k = 4) || decide (k = 7) || digitB (bAt s k)
@[irreducible] def dayB (s : ByteArray) : Bool := decide (s.size = 10) && decide ((bAt s 4).toNat = 45) && decide ((bAt s 7).toNat = 45) && allN 10 (dgAt s)
def yearS (s : ByteArray) : Int := 10 * (10 * (10 * dw s 0 + dw s 1) + dw s 2) + dw s 3
def two (s : ByteArray) (k : Nat) : Int := 10 * dw s k + dw s (k + 1)
theorem dgAll {s : ByteArray} (h : allN 10 (dgAt s) = true) {k : Nat} (hk : k < 10) (h4 : k ≠ 4) (h7 : k ≠ 7) : digitB (bAt s k) = true := by
  have := allN_iff.1 h k hk
  unfold dgAt at this
  simpa [h4, h7] using this
theorem num4 (a b c d : UInt8) (ha : digitB a = true) (hb : digitB b = true) (hc : digitB c = true) (hd : digitB d = true) : (numN ⟨#[a, b, c, d]⟩ : Int) = 10 * (10 * (10 * ((a.toNat : Int) - 48) + (b.toNat - 48)) + (c.toNat - 48)) + (d.toNat - 48) ∧ digs ⟨#[a, b, c, d]⟩ = true := by
  refine ⟨?_, by unfold digs; rw [allN_iff]; intro k hk; match k, hk with | 0, _ => exact ha | 1, _ => exact hb | 2, _ => exact hc | 3, _ => exact hd⟩
  have h1 := digitB_iff.1 ha
  have h2 := digitB_iff.1 hb
  have h3 := digitB_iff.1 hc
  have h4 := digitB_iff.1 hd
  unfold numN
  simp only [Lib.parseUint10]
  repeat (first | rw [if_pos (by omega)] | rw [if_neg (by omega)])
  simp only
  omega
theorem num2 (a b : UInt8) (ha : digitB a = true) (hb : digitB b = true) : (numN ⟨#[a, b]⟩ : Int) = 10 * ((a.toNat : Int) - 48) + (b.toNat - 48) ∧ digs ⟨#[a, b]⟩ = true := by
  refine ⟨?_, by unfold digs; rw [allN_iff]; intro k hk; match k, hk with | 0, _ => exact ha | 1, _ => exact hb⟩
  have h1 := digitB_iff.1 ha
  have h2 := digitB_iff.1 hb
  unfold numN
  simp only [Lib.parseUint10]
  repeat (first | rw [if_pos (by omega)] | rw [if_neg (by omega)])
  simp only
  omega
/-- A day's parts as numbers. -/
theorem day_nums {s : ByteArray} (h : dayB s = true) : (numN (s.extract 0 4) : Int) = yearS s ∧ (numN (s.extract 5 7) : Int) = two s 5 ∧ (numN (s.extract 8 10) : Int) = two s 8 ∧
    digs (s.extract 0 4) = true ∧ digs (s.extract 5 7) = true ∧ digs (s.extract 8 10) = true ∧ (s.extract 0 4).size = 4 ∧ (s.extract 5 7).size = 2 ∧ (s.extract 8 10).size = 2 := by
  unfold dayB at h
  simp only [Bool.and_eq_true, decide_eq_true_eq] at h
  obtain ⟨⟨⟨h1, h4⟩, h7⟩, hall⟩ := h
  have h := fun k hk h4 h7 => @dgAll s hall k hk h4 h7
  have e := fun k hk h4 h7 => dw_eq (h k hk h4 h7)
  obtain ⟨c0, c1, c2, c3, c4, c5, c6, c7, c8, c9, rfl⟩ := ten h1
  have g0 := h 0 (by decide) (by decide) (by decide)
  have g1 := h 1 (by decide) (by decide) (by decide)
  have g2 := h 2 (by decide) (by decide) (by decide)
  have g3 := h 3 (by decide) (by decide) (by decide)
  have g5 := h 5 (by decide) (by decide) (by decide)
  have g6 := h 6 (by decide) (by decide) (by decide)
  have g8 := h 8 (by decide) (by decide) (by decide)
  have g9 := h 9 (by decide) (by decide) (by decide)
  have x1 : (⟨#[c0, c1, c2, c3, c4, c5, c6, c7, c8, c9]⟩ : ByteArray).extract 0 4 = ⟨#[c0, c1, c2, c3]⟩ := rfl
  have x2 : (⟨#[c0, c1, c2, c3, c4, c5, c6, c7, c8, c9]⟩ : ByteArray).extract 5 7 = ⟨#[c5, c6]⟩ := rfl
  have x3 : (⟨#[c0, c1, c2, c3, c4, c5, c6, c7, c8, c9]⟩ : ByteArray).extract 8 10 = ⟨#[c8, c9]⟩ := rfl
  rw [x1, x2, x3]
  obtain ⟨n1, d1⟩ := num4 c0 c1 c2 c3 g0 g1 g2 g3
  obtain ⟨n2, d2⟩ := num2 c5 c6 g5 g6
  obtain ⟨n3, d3⟩ := num2 c8 c9 g8 g9
  refine ⟨?_, ?_, ?_, d1, d2, d3, rfl, rfl, rfl⟩
  · rw [n1]
    unfold yearS
    rw [e 0 (by decide) (by decide) (by decide), e 1 (by decide) (by decide) (by decide), e 2 (by decide) (by decide) (by decide), e 3 (by decide) (by decide) (by decide)]
    rfl
  · rw [n2]
    unfold two
    rw [e 5 (by decide) (by decide) (by decide), e 6 (by decide) (by decide) (by decide)]
    rfl
  · rw [n3]
    unfold two
    rw [e 8 (by decide) (by decide) (by decide), e 9 (by decide) (by decide) (by decide)]
    rfl
/-- The reference's form. -/
theorem dayB_ref {s : ByteArray} (h1 : s.size = 10) (h4 : (bAt s 4).toNat = 45) (h7 : (bAt s 7).toNat = 45) : dayB s = dgB ((s.extract 0 4 ++ s.extract 5 7) ++ s.extract 8 10) := by
  have hb : dayB s = allN 10 (dgAt s) := by unfold dayB; rw [decide_eq_true h1, decide_eq_true h4, decide_eq_true h7]; rfl
  rw [hb]
  obtain ⟨c0, c1, c2, c3, c4, c5, c6, c7, c8, c9, rfl⟩ := ten h1
  have x1 : ((⟨#[c0, c1, c2, c3, c4, c5, c6, c7, c8, c9]⟩ : ByteArray).extract 0 4 ++ (⟨#[c0, c1, c2, c3, c4, c5, c6, c7, c8, c9]⟩ : ByteArray).extract 5 7) ++ (⟨#[c0, c1, c2, c3, c4, c5, c6, c7, c8, c9]⟩ : ByteArray).extract 8 10 = ⟨#[c0, c1, c2, c3, c5, c6, c8, c9]⟩ := rfl
  rw [x1]
  have hne : ¬ (⟨#[c0, c1, c2, c3, c5, c6, c8, c9]⟩ : ByteArray) = ⟨#[]⟩ := fun h => by
    have := congrArg ByteArray.size h
    exact absurd this (by show ¬ (8 = 0); decide)
  unfold dgB
  rw [decide_eq_true hne, Bool.true_and, Bool.eq_iff_iff]
  unfold digs
  rw [allN_iff, allN_iff]
  constructor
  · intro h k hk
    have g := fun j (hj : j < 10) => h j hj
    match k, hk with
    | 0, _ => exact g 0 (by decide)
    | 1, _ => exact g 1 (by decide)
    | 2, _ => exact g 2 (by decide)
    | 3, _ => exact g 3 (by decide)
    | 4, _ => exact g 5 (by decide)
    | 5, _ => exact g 6 (by decide)
    | 6, _ => exact g 8 (by decide)
    | 7, _ => exact g 9 (by decide)
  · intro h k hk
    have g := fun j (hj : j < 8) => h j hj
    match k, hk with
    | 0, _ => exact g 0 (by decide)
    | 1, _ => exact g 1 (by decide)
    | 2, _ => exact g 2 (by decide)
    | 3, _ => exact g 3 (by decide)
    | 4, _ => rfl
    | 5, _ => exact g 4 (by decide)
    | 6, _ => exact g 5 (by decide)
    | 7, _ => rfl
    | 8, _ => exact g 6 (by decide)
    | 9, _ => exact g 7 (by decide)
end Go.Proofs.YtehmjlgkhhjogaaDoor
