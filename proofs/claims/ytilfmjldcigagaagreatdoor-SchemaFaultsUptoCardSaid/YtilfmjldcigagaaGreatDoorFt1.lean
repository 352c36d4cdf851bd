/-
  Faults of a value by a schema: the plain words; measure, matches. Faults of a value by a schema: matchesRoute; what is wrong with a value, in plain words.
-/
import Derived.Test.YtilfmjldcigagaaGreatDoorM2
import Derived.Test.YtilfmjldcigagaaGreatDoorK2
import Derived.Test.YtilfmjldcigagaaGreatDoorK3
namespace Go.Proofs.YtilfmjldcigagaaGreatDoor
open Go.RowKit
set_option linter.unusedVariables false
set_option linter.unusedSimpArgs false
namespace ft
/-- What bounds are for. -/
def meaV (v : Vu) : Option Int := if v.kind = 2 ∨ v.kind = 4 then some v.i else if v.kind = 3 then some (v.text.size : Int) else if v.kind = 5 ∨ v.kind = 6 then some (v.items.length : Int) else none
/-- A route, and what is wrong there. -/
abbrev Flt := ByteArray × Int
def Flt.cell (q : Flt) (j : Nat) : DD := match j with | 0 => dS q.1 | 1 => i64 q.2 | _ => .opq
def encQ (l : List Flt) : DD := .sl 2 24 l.length (fun i j => (l.getD i (⟨#[]⟩, 0)).cell j)
/-- Parts of a route match those of another, from a place on. -/
def matN (f r : List ByteArray) (k : Nat) : Bool := if k < f.length then (if f.getD k ⟨#[]⟩ ≠ (⟨#[42]⟩ : ByteArray) ∧ f.getD k ⟨#[]⟩ ≠ r.getD k ⟨#[]⟩ then false else matN f r (k + 1)) else true
  termination_by f.length - k
def matB (f r : List ByteArray) : Bool := if r.length < f.length then false else matN f r 0
theorem matN_end {f r : List ByteArray} {k : Nat} (h : ¬ k < f.length) : matN f r k = true := by rw [matN, if_neg h]
theorem matN_no {f r : List ByteArray} {k : Nat} (h : k < f.length) (h2 : f.getD k ⟨#[]⟩ ≠ (⟨#[42]⟩ : ByteArray) ∧ f.getD k ⟨#[]⟩ ≠ r.getD k ⟨#[]⟩) : matN f r k = false := by rw [matN, if_pos h, if_pos h2]
theorem matN_go {f r : List ByteArray} {k : Nat} (h : k < f.length) (h2 : ¬ (f.getD k ⟨#[]⟩ ≠ (⟨#[42]⟩ : ByteArray) ∧ f.getD k ⟨#[]⟩ ≠ r.getD k ⟨#[]⟩)) : matN f r k = matN f r (k + 1) := by rw [matN, if_pos h, if_neg h2]
section
variable (E : Env)
set_option maxRecDepth 100000
theorem measure_sp (v : Vu) : Sp (cx Tryz.prog mixed tyT_ok E) 121 [encV v] (.tup [i64 ((meaV v).getD 0), dB (meaV v).isSome]) := by
  obtain ⟨o, ho⟩ : ∃ o, o = meaV v := ⟨_, rfl⟩
  rw [← ho]
  unfold meaV at ho
  refine Sp.body Tryz.func121 (by kernel_rfl) rfl (by kernel_rfl) (by kernel_rfl) (by kernel_rfl) ?_
  repeat' first
    | (refine facW_intro ?_; intro _)
    | refine Or.inl ?_
    | ((conv => whnf); first | (refine condW_dec ?_ ?_ <;> intro _ <;> try (exfalso; omega)) | refine condW_not ?_ | (refine condW_bool ?_ ?_ <;> intro _ <;> try (exfalso; omega)) | (refine nbC_t (fun _ => ?_) ?_) | (refine nbC_f ?_ (fun _ => ?_)))
    | refine And.intro (by first | omega | (simp only [Int.toNat_natCast] at *; omega) | (simp only [Nat.reduceAdd, Int.cast_ofNat_Int, true_and, and_true]; omega) | kernel_rfl) ?_
    | refine RegW.run ?_
    | fail
  all_goals first
    | (have hn : o = some v.i := by rw [ho, if_pos (by omega)]
       rw [hn]
       exact Dle.refl _ _)
    | (have hn : o = some (v.text.size : Int) := by rw [ho, if_neg (by omega), if_pos (by omega)]
       rw [hn]
       exact Dle.refl _ _)
    | (have hn : o = some (v.items.length : Int) := by rw [ho, if_neg (by omega), if_neg (by omega), if_pos (by omega)]
       rw [hn]
       exact Dle.refl _ _)
    | (have hn : o = none := by rw [ho, if_neg (by omega), if_neg (by omega), if_neg (by omega)]
       rw [hn]
       exact Dle.refl _ _)
    | trace_state
theorem refMeasure_sp (v : Vu) : Sp (cx Tryz.prog mixed tyT_ok E) 48 [encV v] (.tup [i64 ((meaV v).getD 0), dB (meaV v).isSome]) := by
  obtain ⟨o, ho⟩ : ∃ o, o = meaV v := ⟨_, rfl⟩
  rw [← ho]
  unfold meaV at ho
  refine Sp.body Tryz.func48 (by kernel_rfl) rfl (by kernel_rfl) (by kernel_rfl) (by kernel_rfl) ?_
  repeat' first
    | (refine facW_intro ?_; intro _)
    | refine Or.inl ?_
    | ((conv => whnf); first | (refine condW_dec ?_ ?_ <;> intro _ <;> try (exfalso; omega)) | refine condW_not ?_ | (refine condW_bool ?_ ?_ <;> intro _ <;> try (exfalso; omega)) | (refine nbC_t (fun _ => ?_) ?_) | (refine nbC_f ?_ (fun _ => ?_)))
    | refine And.intro (by first | omega | (simp only [Int.toNat_natCast] at *; omega) | (simp only [Nat.reduceAdd, Int.cast_ofNat_Int, true_and, and_true]; omega) | kernel_rfl) ?_
    | refine RegW.run ?_
    | fail
  all_goals first
    | (have hn : o = some v.i := by rw [ho, if_pos (by omega)]
       rw [hn]
       exact Dle.refl _ _)
    | (have hn : o = some (v.text.size : Int) := by rw [ho, if_neg (by omega), if_pos (by omega)]
       rw [hn]
       exact Dle.refl _ _)
    | (have hn : o = some (v.items.length : Int) := by rw [ho, if_neg (by omega), if_neg (by omega), if_pos (by omega)]
       rw [hn]
       exact Dle.refl _ _)
    | (have hn : o = none := by rw [ho, if_neg (by omega), if_neg (by omega), if_neg (by omega)]
       rw [hn]
       exact Dle.refl _ _)
    | trace_state
theorem matches_sp (f r : List ByteArray) : Sp (cx Tryz.prog mixed tyT_ok E) 45 [encStrs f, encStrs r] (dB (matB f r)) := by
  obtain ⟨q, hq⟩ : ∃ q, q = matB f r := ⟨_, rfl⟩
  rw [← hq]
  unfold matB at hq
  by_cases hl : r.length < f.length
  · rw [if_pos hl] at hq
    subst hq
    refine Sp.body Tryz.func45 (by kernel_rfl) rfl (by kernel_rfl) (by kernel_rfl) (by kernel_rfl) ?_
    repeat' first
      | (refine facW_intro ?_; intro _)
      | refine Or.inl ?_
      | ((conv => whnf); first | (refine condW_dec ?_ ?_ <;> intro _ <;> try (exfalso; omega)) | refine condW_not ?_ | (refine condW_bool ?_ ?_ <;> intro _ <;> try (exfalso; omega)) | (refine nbC_t (fun _ => ?_) ?_) | (refine nbC_f ?_ (fun _ => ?_)))
      | refine And.intro (by first | omega | (simp only [Int.toNat_natCast] at *; omega) | (simp only [Nat.reduceAdd, Int.cast_ofNat_Int, true_and, and_true]; omega) | kernel_rfl) ?_
      | refine RegW.run ?_
      | fail
    all_goals first
      | exact Dle.refl _ _
      | trace_state
  · rw [if_neg hl] at hq
    refine Sp.body Tryz.func45 (by kernel_rfl) rfl (by kernel_rfl) (by kernel_rfl) (by kernel_rfl) ?_
    repeat' first
      | (refine facW_intro ?_; intro _)
      | refine Or.inl ?_
      | ((conv => whnf); first | (refine condW_dec ?_ ?_ <;> intro _ <;> try (exfalso; omega)) | refine condW_not ?_ | (refine condW_bool ?_ ?_ <;> intro _ <;> try (exfalso; omega)) | (refine nbC_t (fun _ => ?_) ?_) | (refine nbC_f ?_ (fun _ => ?_)))
      | refine And.intro (by first | omega | (simp only [Int.toNat_natCast] at *; omega) | (simp only [Nat.reduceAdd, Int.cast_ofNat_Int, true_and, and_true]; omega) | kernel_rfl) ?_
      | refine RegW.run ?_
      | fail
    refine ⟨Nat, fun k => [(14, i64 k)], fun k => [], [], fun k => [], fun k => k ≤ f.length ∧ q = matN f r k, fun k => f.length - k, ⟨0, ⟨by omega, hq⟩, ⟨[], ⟨by kernel_rfl, by kernel_rfl, by kernel_rfl, by kernel_rfl, by kernel_rfl, by kernel_rfl, by kernel_rfl⟩, (by repeat' first | exact trivial | exact rfl | kernel_rfl | exact Dle.of_eq rfl | exact MLe.of_eq rfl | exact Dle.i (by omega) | exact Dle.i (by simp only [Int.toNat_natCast] at *; omega) | exact Dle.nil | exact Dle.rc Dle.nil | exact Option.some_ne_none _ | exact Or.inl rfl | exact Or.inr trivial | omega | (simp only [Int.toNat_natCast] at *; omega) | (intro _ _ _ _; exact Dle.of_eq rfl) | refine And.intro ?_ ?_)⟩⟩, fun k hk => ?_⟩
    obtain ⟨hk, hK⟩ := hk
    by_cases hlt : k < f.length
    · by_cases hm : f.getD k ⟨#[]⟩ ≠ (⟨#[42]⟩ : ByteArray) ∧ f.getD k ⟨#[]⟩ ≠ r.getD k ⟨#[]⟩
      · rw [matN_no hlt hm] at hK
        subst hK
        have m1 : ¬ f.getD ((k : Int)).toNat ⟨#[]⟩ = (⟨#[42]⟩ : ByteArray) := hm.1
        have m2 : ¬ f.getD ((k : Int)).toNat ⟨#[]⟩ = r.getD ((k : Int)).toNat ⟨#[]⟩ := hm.2
        repeat' first
          | (refine facW_intro ?_; intro _)
          | refine Or.inl ?_
          | ((conv => whnf); first | (refine condW_dec ?_ ?_ <;> intro _ <;> try (exfalso; omega)) | refine condW_not ?_ | (refine condW_bool ?_ ?_ <;> intro _ <;> try (exfalso; omega)) | (refine nbC_t (fun _ => ?_) ?_) | (refine nbC_f ?_ (fun _ => ?_)))
          | refine And.intro (by first | omega | (simp only [Int.toNat_natCast] at *; omega) | (simp only [Nat.reduceAdd, Int.cast_ofNat_Int, true_and, and_true]; omega) | kernel_rfl) ?_
          | refine RegW.run ?_
          | fail
        all_goals first
          | exact Dle.refl _ _
          | (exfalso; exact m1 (by assumption))
          | (exfalso; exact m2 (by assumption))
          | trace_state
      · rw [matN_go hlt hm] at hK
        have m1 : ¬ f.getD ((k : Int)).toNat ⟨#[]⟩ = (⟨#[42]⟩ : ByteArray) → f.getD ((k : Int)).toNat ⟨#[]⟩ = r.getD ((k : Int)).toNat ⟨#[]⟩ := fun h => Classical.byContradiction fun g => hm ⟨h, g⟩
        repeat' first
          | (refine facW_intro ?_; intro _)
          | refine Or.inl ?_
          | ((conv => whnf); first | (refine condW_dec ?_ ?_ <;> intro _ <;> try (exfalso; omega)) | refine condW_not ?_ | (refine condW_bool ?_ ?_ <;> intro _ <;> try (exfalso; omega)) | (refine nbC_t (fun _ => ?_) ?_) | (refine nbC_f ?_ (fun _ => ?_)))
          | refine And.intro (by first | omega | (simp only [Int.toNat_natCast] at *; omega) | (simp only [Nat.reduceAdd, Int.cast_ofNat_Int, true_and, and_true]; omega) | kernel_rfl) ?_
          | refine RegW.run ?_
          | fail
        all_goals first
          | exact ⟨k + 1, ⟨by omega, hK⟩, ⟨[], ⟨by kernel_rfl, by kernel_rfl, by kernel_rfl, by kernel_rfl, by kernel_rfl, by kernel_rfl, by kernel_rfl⟩, (by repeat' first | exact trivial | exact rfl | kernel_rfl | exact Dle.of_eq rfl | exact MLe.of_eq rfl | exact Dle.i (by omega) | exact Dle.i (by simp only [Int.toNat_natCast] at *; omega) | exact Dle.nil | exact Dle.rc Dle.nil | exact Option.some_ne_none _ | exact Or.inl rfl | exact Or.inr trivial | omega | (simp only [Int.toNat_natCast] at *; omega) | (intro _ _ _ _; exact Dle.of_eq rfl) | refine And.intro ?_ ?_)⟩, by first | omega | (dsimp only; omega)⟩
          | (exfalso; rename_i g h; exact h (m1 g))
          | trace_state
    · rw [matN_end hlt] at hK
      subst hK
      repeat' first
        | (refine facW_intro ?_; intro _)
        | refine Or.inl ?_
        | ((conv => whnf); first | (refine condW_dec ?_ ?_ <;> intro _ <;> try (exfalso; omega)) | refine condW_not ?_ | (refine condW_bool ?_ ?_ <;> intro _ <;> try (exfalso; omega)) | (refine nbC_t (fun _ => ?_) ?_) | (refine nbC_f ?_ (fun _ => ?_)))
        | refine And.intro (by first | omega | (simp only [Int.toNat_natCast] at *; omega) | (simp only [Nat.reduceAdd, Int.cast_ofNat_Int, true_and, and_true]; omega) | kernel_rfl) ?_
        | refine RegW.run ?_
        | fail
      all_goals first
        | exact Dle.refl _ _
        | trace_state
end
end ft
end Go.Proofs.YtilfmjldcigagaaGreatDoor
namespace Go.Proofs.YtilfmjldcigagaaGreatDoor
open Go.RowKit
set_option linter.unusedVariables false
set_option linter.unusedSimpArgs false
namespace ft
def matR (f r : ByteArray) : Bool := if r = ⟨#[]⟩ then false else matB (pcs f ⟨#[46]⟩) (pcs r ⟨#[46]⟩)
/-- What is wrong with a value to which a field comes. -/
def boundO (f : Fd) (r : ByteArray) (m : Option Int) : List Flt := match m with | some n => if f.bounded = true then (if n < f.lo then [(r, 3)] else if f.hi < n then [(r, 4)] else []) else [] | none => []
theorem boundO_none (f : Fd) (r : ByteArray) : boundO f r none = [] := rfl
theorem boundO_off {f : Fd} {r : ByteArray} {n : Int} (h : f.bounded = false) : boundO f r (some n) = [] := by unfold boundO; simp only [h]; rfl
theorem boundO_low {f : Fd} {r : ByteArray} {n : Int} (h : f.bounded = true) (h2 : n < f.lo) : boundO f r (some n) = [(r, 3)] := by unfold boundO; simp only [h, h2, if_true]
theorem boundO_high {f : Fd} {r : ByteArray} {n : Int} (h : f.bounded = true) (h2 : ¬ n < f.lo) (h3 : f.hi < n) : boundO f r (some n) = [(r, 4)] := by unfold boundO; simp only [h, h2, h3, if_true, if_false]
theorem boundO_in {f : Fd} {r : ByteArray} {n : Int} (h : f.bounded = true) (h2 : ¬ n < f.lo) (h3 : ¬ f.hi < n) : boundO f r (some n) = [] := by unfold boundO; simp only [h, h2, h3, if_true, if_false]
def boundF (f : Fd) (v : Vu) (r : ByteArray) : List Flt := boundO f r (meaV v)
def otherF (f : Fd) (v : Vu) (r : ByteArray) : List Flt := if f.oneOf.length = 0 ∨ v.kind ≠ 3 then [] else if 0 ≤ idxS f.oneOf v.text 0 then [] else [(r, 5)]
def valF (f : Fd) (v : Vu) (r : ByteArray) : List Flt := if f.kind ≠ -1 ∧ v.kind ≠ f.kind then [(r, 2)] else boundF f v r ++ otherF f v r
section
variable (E : Env)
set_option maxRecDepth 100000
theorem matchesRoute_sp (hML : ∀ w, E.G w → ML w) (f r : ByteArray) (hf : f.size ≤ 1000000000) (hr : r.size ≤ 1000000000) : Sp (cx Tryz.prog mixed tyT_ok E) 52 [dS f, dS r] (dB (matR f r)) := by
  obtain ⟨q, hq⟩ : ∃ q, q = matR f r := ⟨_, rfl⟩
  rw [← hq]
  unfold matR matB at hq
  by_cases h0 : r = ⟨#[]⟩
  · rw [if_pos h0] at hq
    subst hq
    refine Sp.body Tryz.func52 (by kernel_rfl) rfl (by kernel_rfl) (by kernel_rfl) (by kernel_rfl) ?_
    repeat' first
      | (refine facW_intro ?_; intro _)
      | refine Or.inl ?_
      | ((conv => whnf); first | (refine condW_dec ?_ ?_ <;> intro _ <;> try (exfalso; omega)) | refine condW_not ?_ | (refine condW_bool ?_ ?_ <;> intro _ <;> try (exfalso; omega)) | (refine nbC_t (fun _ => ?_) ?_) | (refine nbC_f ?_ (fun _ => ?_)))
      | refine And.intro (by first | omega | (simp only [Int.toNat_natCast] at *; omega) | (simp only [Nat.reduceAdd, Int.cast_ofNat_Int, true_and, and_true]; omega) | kernel_rfl) ?_
      | refine RegW.run ?_
      | fail
    all_goals first
      | exact Dle.refl _ _
      | (exfalso; exact absurd h0 (by assumption))
      | trace_state
  · rw [if_neg h0] at hq
    have h1 := split_sp E hML f ⟨#[46]⟩ (by omega) (by decide)
    have h2 := split_sp E hML r ⟨#[46]⟩ (by omega) (by decide)
    have l1 := pcs_len_le f
    have l2 := pcs_len_le r
    generalize pcs f ⟨#[46]⟩ = F at hq h1 l1
    generalize pcs r ⟨#[46]⟩ = R at hq h2 l2
    by_cases hl : R.length < F.length
    · rw [if_pos hl] at hq
      subst hq
      refine Sp.body Tryz.func52 (by kernel_rfl) rfl (by kernel_rfl) (by kernel_rfl) (by kernel_rfl) ?_
      repeat' first
        | (refine facW_intro ?_; intro _)
        | refine Or.inl ?_
        | ((conv => whnf); first | (refine condW_dec ?_ ?_ <;> intro _ <;> try (exfalso; omega)) | refine condW_not ?_ | (refine condW_bool ?_ ?_ <;> intro _ <;> try (exfalso; omega)) | (refine nbC_t (fun _ => ?_) ?_) | (refine nbC_f ?_ (fun _ => ?_)))
        | refine And.intro (by first | omega | (simp only [Int.toNat_natCast] at *; omega) | (simp only [Nat.reduceAdd, Int.cast_ofNat_Int, true_and, and_true]; omega) | kernel_rfl) ?_
        | refine RegW.run ?_
        | refine ⟨_, h1, ?_⟩
        | refine ⟨_, h2, ?_⟩
        | fail
      all_goals first
        | (exfalso; exact h0 (by assumption))
        | exact Dle.refl _ _
        | trace_state
    · rw [if_neg hl] at hq
      refine Sp.body Tryz.func52 (by kernel_rfl) rfl (by kernel_rfl) (by kernel_rfl) (by kernel_rfl) ?_
      repeat' first
        | (refine facW_intro ?_; intro _)
        | refine Or.inl ?_
        | ((conv => whnf); first | (refine condW_dec ?_ ?_ <;> intro _ <;> try (exfalso; omega)) | refine condW_not ?_ | (refine condW_bool ?_ ?_ <;> intro _ <;> try (exfalso; omega)) | (refine nbC_t (fun _ => ?_) ?_) | (refine nbC_f ?_ (fun _ => ?_)))
        | refine And.intro (by first | omega | (simp only [Int.toNat_natCast] at *; omega) | (simp only [Nat.reduceAdd, Int.cast_ofNat_Int, true_and, and_true]; omega) | kernel_rfl) ?_
        | refine RegW.run ?_
        | refine ⟨_, h1, ?_⟩
        | refine ⟨_, h2, ?_⟩
        | fail
      all_goals try (exfalso; exact h0 (by assumption))
      refine ⟨Nat, fun k => [(22, i64 k)], fun k => [], [], fun k => [], fun k => k ≤ F.length ∧ q = matN F R k, fun k => F.length - k, ⟨0, ⟨by omega, hq⟩, ⟨[], ⟨by kernel_rfl, by kernel_rfl, by kernel_rfl, by kernel_rfl, by kernel_rfl, by kernel_rfl, by kernel_rfl⟩, (by repeat' first | exact trivial | exact rfl | kernel_rfl | exact Dle.of_eq rfl | exact MLe.of_eq rfl | exact Dle.i (by omega) | exact Dle.i (by simp only [Int.toNat_natCast] at *; omega) | exact Dle.nil | exact Dle.rc Dle.nil | exact Option.some_ne_none _ | exact Or.inl rfl | exact Or.inr trivial | omega | (simp only [Int.toNat_natCast] at *; omega) | (intro _ _ _ _; exact Dle.of_eq rfl) | refine And.intro ?_ ?_)⟩⟩, fun k hk => ?_⟩
      obtain ⟨hk, hK⟩ := hk
      by_cases hlt : k < F.length
      · by_cases hm : F.getD k ⟨#[]⟩ ≠ (⟨#[42]⟩ : ByteArray) ∧ F.getD k ⟨#[]⟩ ≠ R.getD k ⟨#[]⟩
        · rw [matN_no hlt hm] at hK
          subst hK
          have m1 : ¬ F.getD ((k : Int)).toNat ⟨#[]⟩ = (⟨#[42]⟩ : ByteArray) := hm.1
          have m2 : ¬ F.getD ((k : Int)).toNat ⟨#[]⟩ = R.getD ((k : Int)).toNat ⟨#[]⟩ := hm.2
          repeat' first
            | (refine facW_intro ?_; intro _)
            | refine Or.inl ?_
            | ((conv => whnf); first | (refine condW_dec ?_ ?_ <;> intro _ <;> try (exfalso; omega)) | refine condW_not ?_ | (refine condW_bool ?_ ?_ <;> intro _ <;> try (exfalso; omega)) | (refine nbC_t (fun _ => ?_) ?_) | (refine nbC_f ?_ (fun _ => ?_)))
            | refine And.intro (by first | omega | (simp only [Int.toNat_natCast] at *; omega) | (simp only [Nat.reduceAdd, Int.cast_ofNat_Int, true_and, and_true]; omega) | kernel_rfl) ?_
            | refine RegW.run ?_
            | fail
          all_goals first
            | exact Dle.refl _ _
            | (exfalso; exact m1 (by assumption))
            | (exfalso; exact m2 (by assumption))
            | trace_state
        · rw [matN_go hlt hm] at hK
          have m1 : ¬ F.getD ((k : Int)).toNat ⟨#[]⟩ = (⟨#[42]⟩ : ByteArray) → F.getD ((k : Int)).toNat ⟨#[]⟩ = R.getD ((k : Int)).toNat ⟨#[]⟩ := fun h => Classical.byContradiction fun g => hm ⟨h, g⟩
          repeat' first
            | (refine facW_intro ?_; intro _)
            | refine Or.inl ?_
            | ((conv => whnf); first | (refine condW_dec ?_ ?_ <;> intro _ <;> try (exfalso; omega)) | refine condW_not ?_ | (refine condW_bool ?_ ?_ <;> intro _ <;> try (exfalso; omega)) | (refine nbC_t (fun _ => ?_) ?_) | (refine nbC_f ?_ (fun _ => ?_)))
            | refine And.intro (by first | omega | (simp only [Int.toNat_natCast] at *; omega) | (simp only [Nat.reduceAdd, Int.cast_ofNat_Int, true_and, and_true]; omega) | kernel_rfl) ?_
            | refine RegW.run ?_
            | fail
          all_goals first
            | exact ⟨k + 1, ⟨by omega, hK⟩, ⟨[], ⟨by kernel_rfl, by kernel_rfl, by kernel_rfl, by kernel_rfl, by kernel_rfl, by kernel_rfl, by kernel_rfl⟩, (by repeat' first | exact trivial | exact rfl | kernel_rfl | exact Dle.of_eq rfl | exact MLe.of_eq rfl | exact Dle.i (by omega) | exact Dle.i (by simp only [Int.toNat_natCast] at *; omega) | exact Dle.nil | exact Dle.rc Dle.nil | exact Option.some_ne_none _ | exact Or.inl rfl | exact Or.inr trivial | omega | (simp only [Int.toNat_natCast] at *; omega) | (intro _ _ _ _; exact Dle.of_eq rfl) | refine And.intro ?_ ?_)⟩, by first | omega | (dsimp only; omega)⟩
            | (exfalso; rename_i g h; exact h (m1 g))
            | trace_state
      · rw [matN_end hlt] at hK
        subst hK
        repeat' first
          | (refine facW_intro ?_; intro _)
          | refine Or.inl ?_
          | ((conv => whnf); first | (refine condW_dec ?_ ?_ <;> intro _ <;> try (exfalso; omega)) | refine condW_not ?_ | (refine condW_bool ?_ ?_ <;> intro _ <;> try (exfalso; omega)) | (refine nbC_t (fun _ => ?_) ?_) | (refine nbC_f ?_ (fun _ => ?_)))
          | refine And.intro (by first | omega | (simp only [Int.toNat_natCast] at *; omega) | (simp only [Nat.reduceAdd, Int.cast_ofNat_Int, true_and, and_true]; omega) | kernel_rfl) ?_
          | refine RegW.run ?_
          | fail
        all_goals first
          | exact Dle.refl _ _
          | trace_state
end
end ft
end Go.Proofs.YtilfmjldcigagaaGreatDoor
