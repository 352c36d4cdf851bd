/-
  Slugs: the program's row of bytes and the reference's text, step by step.
-/
import Derived.Test.YtiaibkbflmamgaaGreatDoorBy3
namespace Go.Proofs.YtiaibkbflmamgaaGreatDoor
open Go.RowKit
set_option linter.unusedVariables false
set_option linter.unusedSimpArgs false
namespace tp
/-- A byte made small. -/
def low (c : UInt8) : UInt8 := if 65 ≤ c.toNat ∧ c.toNat ≤ 90 then c + 32 else c
/-- A small letter or a digit. -/
def aln (c : UInt8) : Bool := smallB c || digitB c
/-- The reference's step: the text, whether a gap stands open. -/
def rStep (p : List UInt8 × Bool) (b : UInt8) : List UInt8 × Bool := if aln (low b) = true then (p.1 ++ (if p.2 = true ∧ p.1 ≠ [] then [45] else []) ++ [low b], false) else (p.1, true)
/-- The program's step. -/
def pStep (o : List UInt8) (b : UInt8) : List UInt8 := if aln (low b) = true then o ++ [low b] else if o ≠ [] ∧ o.getLast? ≠ some 45 then o ++ [45] else o
def rAll (l : List UInt8) : List UInt8 × Bool := l.foldl rStep ([], false)
def pAll (l : List UInt8) : List UInt8 := l.foldl pStep []
/-- What both have in common. -/
def Both (p : List UInt8 × Bool) (o : List UInt8) : Prop := o = p.1 ++ (if p.2 = true ∧ p.1 ≠ [] then [45] else []) ∧ p.1.getLast? ≠ some 45
theorem aln_no {c : UInt8} (h : aln c = true) : c ≠ 45 := fun e => by
  subst e
  revert h
  decide
theorem both_step {p : List UInt8 × Bool} {o : List UInt8} (h : Both p o) (b : UInt8) : Both (rStep p b) (pStep o b) := by
  obtain ⟨r, g⟩ := p
  obtain ⟨h1, h2⟩ := h
  simp only at h1 h2
  unfold rStep pStep Both
  by_cases ha : aln (low b) = true
  · simp only [if_pos ha, Bool.false_eq_true, false_and, if_false, List.append_nil]
    refine ⟨by rw [h1], ?_⟩
    rw [List.getLast?_concat]
    exact fun h => aln_no ha (Option.some.inj h)
  · simp only [if_neg ha, true_and]
    refine ⟨?_, h2⟩
    by_cases hr : r = []
    · subst hr
      simp at h1
      subst h1
      simp
    · rw [if_pos hr]
      cases g
      · simp only [Bool.false_eq_true, false_and, if_false, List.append_nil] at h1
        subst h1
        rw [if_pos ⟨hr, h2⟩]
      · rw [if_pos ⟨rfl, hr⟩] at h1
        subst h1
        rw [if_neg (fun h => h.2 (List.getLast?_concat))]
theorem both_fold : ∀ (l : List UInt8) (p : List UInt8 × Bool) (o : List UInt8), Both p o → Both (l.foldl rStep p) (l.foldl pStep o)
  | [], _, _, h => h
  | b :: l, _, _, h => both_fold l _ _ (both_step h b)
theorem both_all (l : List UInt8) : Both (rAll l) (pAll l) := both_fold l _ _ ⟨by simp, by simp⟩
/-- One trailing dash is cut off. -/
def cut1 (l : List UInt8) : List UInt8 := if l.getLast? = some 45 then l.dropLast else l
/-- What a slug is. -/
def slug (l : List UInt8) : List UInt8 := cut1 ((pAll l).take 40)
/-- No two dashes stand side by side. -/
def noDD : List UInt8 → Prop
  | a :: b :: r => ¬ (a = 45 ∧ b = 45) ∧ noDD (b :: r)
  | _ => True
theorem noDD_snoc : ∀ (l : List UInt8) (c : UInt8), noDD l → (c = 45 → l.getLast? ≠ some 45) → noDD (l ++ [c])
  | [], _, _, _ => trivial
  | [a], c, _, h => ⟨fun ⟨h1, h2⟩ => h h2 (by rw [h1]; rfl), trivial⟩
  | a :: b :: r, c, ⟨h1, h2⟩, h => ⟨h1, noDD_snoc (b :: r) c h2 (fun e => by have := h e; rwa [List.getLast?_cons_cons] at this)⟩
theorem noDD_pStep {o : List UInt8} (h : noDD o) (b : UInt8) : noDD (pStep o b) := by
  unfold pStep
  split
  · rename_i ha
    exact noDD_snoc _ _ h (fun e => absurd e (aln_no ha))
  · split
    · rename_i h2
      exact noDD_snoc _ _ h (fun _ => h2.2)
    · exact h
theorem noDD_fold : ∀ (l : List UInt8) (o : List UInt8), noDD o → noDD (l.foldl pStep o)
  | [], _, h => h
  | b :: l, _, h => noDD_fold l _ (noDD_pStep h b)
theorem noDD_take : ∀ (l : List UInt8) (n : Nat), noDD l → noDD (l.take n)
  | [], n, _ => by simp [noDD]
  | [a], 0, _ => trivial
  | [a], n + 1, _ => by simp [noDD]
  | a :: b :: r, 0, _ => trivial
  | a :: b :: r, 1, _ => trivial
  | a :: b :: r, n + 2, ⟨h1, h2⟩ => ⟨h1, noDD_take (b :: r) (n + 1) h2⟩
/-- All trailing dashes are cut off. -/
def cutAll (l : List UInt8) : List UInt8 := (l.reverse.dropWhile (fun c => c == 45)).reverse
theorem cutAll_one {l : List UInt8} (h : noDD l) : cutAll l = cut1 l := by
  unfold cutAll cut1
  rcases List.eq_nil_or_concat l with rfl | ⟨m, c, rfl⟩
  · rfl
  · rw [List.concat_eq_append, List.reverse_append, List.getLast?_concat, List.dropLast_concat]
    simp only [List.reverse_cons, List.reverse_nil, List.nil_append, List.singleton_append, List.dropWhile_cons]
    by_cases hc : c = 45
    · subst hc
      rw [if_pos (by decide), if_pos rfl]
      rcases List.eq_nil_or_concat m with rfl | ⟨m2, d, rfl⟩
      · rfl
      · have hd : d ≠ 45 := fun e => by
          subst e
          simp only [List.concat_eq_append, List.append_assoc] at h
          revert h
          induction m2 with
          | nil => exact fun h => h.1 ⟨rfl, rfl⟩
          | cons a r ih =>
            intro h
            apply ih
            cases r with
            | nil => exact h.2
            | cons b r => exact h.2
        rw [List.concat_eq_append, List.reverse_append]
        simp only [List.reverse_cons, List.reverse_nil, List.nil_append, List.singleton_append, List.dropWhile_cons]
        rw [if_neg (by simpa using hd)]
        simp
    · rw [if_neg (by simpa using hc), if_neg (fun h => hc (Option.some.inj h))]
      simp
/-- The reference's answer is the program's. -/
theorem slug_ref (l : List UInt8) : cutAll ((rAll l).1.take 40) = slug l := by
  have hb := both_all l
  have hn : noDD (pAll l) := noDD_fold l [] trivial
  obtain ⟨h1, h2⟩ := hb
  unfold slug
  have ht : noDD ((rAll l).1.take 40) := by
    have hp : (rAll l).1 <+: pAll l := ⟨_, h1.symm⟩
    rcases Nat.lt_or_ge 40 (rAll l).1.length with hl | hl
    · have e : (rAll l).1.take 40 = (pAll l).take 40 := by rw [h1, List.take_append_of_le_length (by omega)]
      rw [e]
      exact noDD_take _ _ hn
    · have e : (rAll l).1 = (pAll l).take (rAll l).1.length := by conv => rhs; rw [h1]; simp
      rw [List.take_of_length_le hl, e]
      exact noDD_take _ _ hn
  rw [cutAll_one ht]
  by_cases hg : (rAll l).2 = true ∧ (rAll l).1 ≠ []
  · rw [if_pos hg] at h1
    rcases Nat.lt_or_ge (rAll l).1.length 40 with hl | hl
    · rw [h1, List.take_of_length_le (by omega), List.take_of_length_le (by simp; omega)]
      unfold cut1
      rw [if_neg h2, List.getLast?_concat, if_pos rfl, List.dropLast_concat]
    · rw [h1, List.take_append_of_le_length hl]
  · rw [if_neg hg, List.append_nil] at h1
    rw [h1]
theorem pAll_snoc (l : List UInt8) (b : UInt8) : pAll (l ++ [b]) = pStep (pAll l) b := by unfold pAll; rw [List.foldl_append]; rfl
theorem pStep_aln {o : List UInt8} {b : UInt8} (h : aln (low b) = true) : pStep o b = o ++ [low b] := by unfold pStep; rw [if_pos h]
theorem pStep_nil {b : UInt8} {o : List UInt8} (h : aln (low b) = false) (ho : o.length = 0) : pStep o b = o := by
  obtain rfl := List.eq_nil_of_length_eq_zero ho
  unfold pStep
  rw [if_neg (by rw [h]; decide), if_neg (fun g => g.1 rfl)]
theorem last_iff {o : List UInt8} (h : 0 < o.length) : o.getLast? = some 45 ↔ (o.getD (o.length - 1) 0).toNat = 45 := by
  rw [List.getLast?_eq_getElem?, List.getD_eq_getElem?_getD, List.getElem?_eq_getElem (by omega)]
  simp only [Option.some.injEq, Option.getD_some]
  constructor
  · intro e; rw [e]; rfl
  · intro e; exact UInt8.toNat_inj.1 e
theorem pStep_same {b : UInt8} {o : List UInt8} (h : aln (low b) = false) (ho : 0 < o.length) (hl : (o.getD (o.length - 1) 0).toNat = 45) : pStep o b = o := by
  unfold pStep
  rw [if_neg (by rw [h]; decide), if_neg (fun g => g.2 ((last_iff ho).2 hl))]
theorem pStep_dash {b : UInt8} {o : List UInt8} (h : aln (low b) = false) (ho : 0 < o.length) (hl : ¬ (o.getD (o.length - 1) 0).toNat = 45) : pStep o b = o ++ [45] := by
  unfold pStep
  rw [if_neg (by rw [h]; decide), if_pos ⟨fun e => by rw [e] at ho; exact absurd ho (by decide), fun g => hl ((last_iff ho).1 g)⟩]
theorem pStep_len (o : List UInt8) (b : UInt8) : (pStep o b).length ≤ o.length + 1 := by
  unfold pStep
  repeat' split
  all_goals simp
theorem pAll_len (l : List UInt8) : (pAll l).length ≤ l.length := by
  have h : ∀ (l o : List UInt8), (l.foldl pStep o).length ≤ o.length + l.length := by
    intro l
    induction l with
    | nil => intro o; simp
    | cons b r ih => intro o; have h1 := ih (pStep o b); have h2 := pStep_len o b; simp only [List.foldl_cons, List.length_cons]; omega
  simpa [pAll] using h l []
theorem low_up {c : UInt8} (h : 65 ≤ c.toNat ∧ c.toNat ≤ 90) : IntKind.u8.wrap ((c.toNat : Int) + 32) = (low c).toNat := by
  unfold low
  rw [if_pos h, UInt8.toNat_add, show (32 : UInt8).toNat = 32 from rfl, Nat.mod_eq_of_lt (by omega)]
  simp [IntKind.wrap, IntKind.bits, IntKind.signed]
  omega
theorem take_byte {s : ByteArray} {k : Nat} (h : k < s.size) : s.data.toList.take (k + 1) = s.data.toList.take k ++ [bAt s k] := by
  have hl : k < s.data.toList.length := by simpa using h
  have hb : bAt s k = s.data.toList[k] := by unfold bAt; rw [List.getD_eq_getElem?_getD, List.getElem?_eq_getElem hl]; rfl
  rw [List.take_add_one, List.getElem?_eq_getElem hl, hb]
  rfl
end tp
end Go.Proofs.YtiaibkbflmamgaaGreatDoor
