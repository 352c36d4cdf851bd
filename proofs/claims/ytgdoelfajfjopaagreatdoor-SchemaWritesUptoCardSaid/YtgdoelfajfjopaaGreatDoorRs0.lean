/-
  What a schema's value must be, and what is read from it: the plain law.
-/
import Derived.Test.YtgdoelfajfjopaaGreatDoorK0
import Derived.Test.YtgdoelfajfjopaaGreatDoorS5
import Derived.Test.YtgdoelfajfjopaaGreatDoorS6
namespace Go.Proofs.YtgdoelfajfjopaaGreatDoor
open Go.RowKit
set_option linter.unusedVariables false
set_option linter.unusedSimpArgs false
namespace rs
def getK (v : Vu) (k : ByteArray) : Option Vu := if hasK v k = true then some (v.items.getD (findK v k) .zero) else none
def itemK (v : Vu) (k : ByteArray) : Vu := (getK v k).getD .zero
theorem hasK_iff {v : Vu} {k : ByteArray} (hs : Srt v.keys) : hasK v k = true ↔ ∃ m, m < v.keys.length ∧ v.keys.getD m ⟨#[]⟩ = k := by
  unfold hasK
  rw [Bool.and_eq_true, decide_eq_true_iff, decide_eq_true_iff]
  constructor
  · rintro ⟨h1, h2⟩
    exact ⟨_, h1, h2⟩
  · rintro ⟨m, h1, h2⟩
    have e : findK v k = m := bsr_at hs h1 h2
    rw [e]
    exact ⟨h1, h2⟩
theorem find_at {v : Vu} {k : ByteArray} (hs : Srt v.keys) {m : Nat} (h1 : m < v.keys.length) (h2 : v.keys.getD m ⟨#[]⟩ = k) : findK v k = m ∧ hasK v k = true :=
  ⟨bsr_at hs h1 h2, (hasK_iff hs).2 ⟨m, h1, h2⟩⟩
theorem has_key {v : Vu} {k : ByteArray} (h : hasK v k = true) : findK v k < v.keys.length ∧ v.keys.getD (findK v k) ⟨#[]⟩ = k := by
  unfold hasK at h
  rwa [Bool.and_eq_true, decide_eq_true_iff, decide_eq_true_iff] at h
/-- The reference's index and the program's search. -/
theorem idx_find {v : Vu} (hs : Srt v.keys) (k : ByteArray) : (idxS v.keys k 0 = -1 ∧ hasK v k = false) ∨ (idxS v.keys k 0 = (findK v k : Int) ∧ hasK v k = true) := by
  rcases idxS_spec v.keys k (v.keys.length + 1) 0 (by omega) with ⟨h1, h2⟩ | ⟨m, h1, h2, h3⟩
  · refine .inl ⟨h1, ?_⟩
    cases h : hasK v k
    · rfl
    · obtain ⟨g1, g2⟩ := has_key h
      exact absurd g2.symm (h2 _ (Nat.zero_le _) g1)
  · obtain ⟨g1, g2⟩ := find_at hs h2 (by first | exact h3.symm | exact h3.1.symm | exact h3.2.symm | exact h3.2.1.symm)
    exact .inr ⟨by rw [h1, g1], g2⟩
/-- The kinds of the items of a field's table; -1: any. -/
def fk (k : ByteArray) : Int := if k = (⟨#[114, 111, 117, 116, 101]⟩ : ByteArray) then 3 else if k = (⟨#[107, 105, 110, 100]⟩ : ByteArray) then 3 else if k = (⟨#[110, 101, 101, 100]⟩ : ByteArray) then 1 else if k = (⟨#[109, 97, 120]⟩ : ByteArray) then 2 else if k = (⟨#[109, 105, 110]⟩ : ByteArray) then 2 else if k = (⟨#[111, 110, 101, 111, 102]⟩ : ByteArray) then 5 else -1
def names : List ByteArray := [(⟨#[110, 105, 108]⟩ : ByteArray), (⟨#[98, 111, 111, 108]⟩ : ByteArray), (⟨#[105, 110, 116]⟩ : ByteArray), (⟨#[115, 116, 114, 105, 110, 103]⟩ : ByteArray), (⟨#[100, 97, 121]⟩ : ByteArray), (⟨#[108, 105, 115, 116]⟩ : ByteArray), (⟨#[116, 97, 98, 108, 101]⟩ : ByteArray)]
def nameI (s : ByteArray) : Int := idxS names s 0
def known (s : ByteArray) : Bool := decide (s = (⟨#[97, 110, 121]⟩ : ByteArray)) || decide (0 ≤ nameI s)
/-- The number of a kind's name, by the program. -/
def kindV (s : ByteArray) : Int := if s = (⟨#[97, 110, 121]⟩ : ByteArray) then -1 else if 0 ≤ nameI s then nameI s else 0
def badIt (k : ByteArray) (x : Vu) : Prop := (fk k ≠ -1 ∧ x.kind ≠ fk k) ∨ (k = (⟨#[111, 110, 101, 111, 102]⟩ : ByteArray) ∧ ∃ j, j < x.items.length ∧ (x.items.getD j .zero).kind ≠ 3)
def badTab (t : Vu) : Prop := t.kind ≠ 6 ∨ ∃ i, i < t.keys.length ∧ badIt (t.keys.getD i ⟨#[]⟩) (t.items.getD i .zero)
def flds (v : Vu) : List Vu := (itemK v (⟨#[102, 105, 101, 108, 100, 115]⟩ : ByteArray)).items
def badTop (v : Vu) : Prop := (hasK v (⟨#[115, 116, 114, 105, 99, 116]⟩ : ByteArray) = true ∧ (itemK v (⟨#[115, 116, 114, 105, 99, 116]⟩ : ByteArray)).kind ≠ 1) ∨ (hasK v (⟨#[102, 105, 101, 108, 100, 115]⟩ : ByteArray) = true ∧ (itemK v (⟨#[102, 105, 101, 108, 100, 115]⟩ : ByteArray)).kind ≠ 5)
def wrongK (v : Vu) : Prop := v.kind ≠ 6 ∨ badTop v ∨ ∃ i, i < (flds v).length ∧ badTab ((flds v).getD i .zero)
def oddTop (v : Vu) : Prop := ∃ i, i < v.keys.length ∧ v.keys.getD i ⟨#[]⟩ ≠ (⟨#[102, 105, 101, 108, 100, 115]⟩ : ByteArray) ∧ v.keys.getD i ⟨#[]⟩ ≠ (⟨#[115, 116, 114, 105, 99, 116]⟩ : ByteArray)
def oddIt (k : ByteArray) (x : Vu) : Prop := (fk k = -1 ∧ k ≠ (⟨#[100, 101, 102, 97, 117, 108, 116]⟩ : ByteArray)) ∨ (k = (⟨#[107, 105, 110, 100]⟩ : ByteArray) ∧ known x.text = false)
def oddTab (t : Vu) : Prop := ∃ i, i < t.keys.length ∧ oddIt (t.keys.getD i ⟨#[]⟩) (t.items.getD i .zero)
def wrongN (v : Vu) : Prop := oddTop v ∨ ∃ i, i < (flds v).length ∧ oddTab ((flds v).getD i .zero)
def lackB (t : Vu) : Bool := !hasK t (⟨#[114, 111, 117, 116, 101]⟩ : ByteArray) || !hasK t (⟨#[107, 105, 110, 100]⟩ : ByteArray) || (hasK t (⟨#[109, 105, 110]⟩ : ByteArray) != hasK t (⟨#[109, 97, 120]⟩ : ByteArray))
/-- One item of a field's table. -/
def rd1 (f : Fd) (k : ByteArray) (x : Vu) : Fd :=
  if k = (⟨#[114, 111, 117, 116, 101]⟩ : ByteArray) then { f with route := x.text } else if k = (⟨#[107, 105, 110, 100]⟩ : ByteArray) then { f with kind := kindV x.text } else if k = (⟨#[110, 101, 101, 100]⟩ : ByteArray) then { f with need := x.b }
  else if k = (⟨#[109, 105, 110]⟩ : ByteArray) then { f with bounded := true, lo := x.i } else if k = (⟨#[109, 97, 120]⟩ : ByteArray) then { f with bounded := true, hi := x.i }
  else if k = (⟨#[111, 110, 101, 111, 102]⟩ : ByteArray) then { f with oneOf := f.oneOf ++ x.items.map (·.text) } else if k = (⟨#[100, 101, 102, 97, 117, 108, 116]⟩ : ByteArray) then { f with dflt := x } else f
def rdN (t : Vu) : Nat → Fd
  | 0 => ⟨⟨#[]⟩, 0, false, false, 0, 0, [], .zero⟩
  | n + 1 => rd1 (rdN t n) (t.keys.getD n ⟨#[]⟩) (t.items.getD n .zero)
def readF (t : Vu) : Fd := rdN t t.keys.length
def fieldR (t : Vu) : Fd := ⟨(itemK t (⟨#[114, 111, 117, 116, 101]⟩ : ByteArray)).text, nameI (itemK t (⟨#[107, 105, 110, 100]⟩ : ByteArray)).text, (itemK t (⟨#[110, 101, 101, 100]⟩ : ByteArray)).b, hasK t (⟨#[109, 105, 110]⟩ : ByteArray), (itemK t (⟨#[109, 105, 110]⟩ : ByteArray)).i, (itemK t (⟨#[109, 97, 120]⟩ : ByteArray)).i, (itemK t (⟨#[111, 110, 101, 111, 102]⟩ : ByteArray)).items.map (·.text), itemK t (⟨#[100, 101, 102, 97, 117, 108, 116]⟩ : ByteArray)⟩
/-- The item of a key, if it is among the first n. -/
def itN (t : Vu) (n : Nat) (k : ByteArray) : Vu := if hasK t k = true ∧ findK t k < n then t.items.getD (findK t k) .zero else .zero
theorem itN_at {t : Vu} (hs : Srt t.keys) {n : Nat} (hn : n < t.keys.length) {k : ByteArray} (hk : t.keys.getD n ⟨#[]⟩ = k) : itN t (n + 1) k = t.items.getD n .zero ∧ itN t n k = .zero := by
  obtain ⟨g1, g2⟩ := find_at hs hn hk
  unfold itN
  rw [if_pos ⟨g2, by omega⟩, if_neg (by omega), g1]
  exact ⟨rfl, rfl⟩
theorem itN_off {t : Vu} {n : Nat} {k : ByteArray} (hk : t.keys.getD n ⟨#[]⟩ ≠ k) : itN t (n + 1) k = itN t n k := by
  unfold itN
  by_cases h : hasK t k = true
  · have hne : findK t k ≠ n := fun e => hk (by rw [← e]; exact (has_key h).2)
    simp only [h, true_and]
    by_cases h2 : findK t k < n
    · rw [if_pos (by omega), if_pos h2]
    · rw [if_neg (by omega), if_neg h2]
  · rw [if_neg (fun g => h g.1), if_neg (fun g => h g.1)]
theorem itN_all (t : Vu) (k : ByteArray) : itN t t.keys.length k = itemK t k := by
  unfold itN itemK getK
  by_cases h : hasK t k = true
  · rw [if_pos ⟨h, (has_key h).1⟩, if_pos h]; rfl
  · rw [if_neg (fun g => h g.1), if_neg h]; rfl
def seenN (t : Vu) (n : Nat) (k : ByteArray) : Bool := hasK t k && decide (findK t k < n)
theorem seenN_at {t : Vu} (hs : Srt t.keys) {n : Nat} (hn : n < t.keys.length) {k : ByteArray} (hk : t.keys.getD n ⟨#[]⟩ = k) : seenN t (n + 1) k = true := by
  obtain ⟨g1, g2⟩ := find_at hs hn hk
  unfold seenN
  rw [g2, g1]; simp
theorem seenN_off {t : Vu} {n : Nat} {k : ByteArray} (hk : t.keys.getD n ⟨#[]⟩ ≠ k) : seenN t (n + 1) k = seenN t n k := by
  unfold seenN
  by_cases h : hasK t k = true
  · have hne : findK t k ≠ n := fun e => hk (by rw [← e]; exact (has_key h).2)
    rw [h]
    simp only [Bool.true_and, decide_eq_decide]
    omega
  · simp [h]
theorem seenN_all (t : Vu) (k : ByteArray) : seenN t t.keys.length k = hasK t k := by
  unfold seenN
  cases h : hasK t k
  · rfl
  · simp [(has_key h).1]
/-- What has been read of a field when n keys are over. -/
def fieldN (t : Vu) (n : Nat) : Fd := ⟨(itN t n (⟨#[114, 111, 117, 116, 101]⟩ : ByteArray)).text, if seenN t n (⟨#[107, 105, 110, 100]⟩ : ByteArray) = true then kindV (itN t n (⟨#[107, 105, 110, 100]⟩ : ByteArray)).text else 0, (itN t n (⟨#[110, 101, 101, 100]⟩ : ByteArray)).b, seenN t n (⟨#[109, 105, 110]⟩ : ByteArray) || seenN t n (⟨#[109, 97, 120]⟩ : ByteArray), (itN t n (⟨#[109, 105, 110]⟩ : ByteArray)).i, (itN t n (⟨#[109, 97, 120]⟩ : ByteArray)).i, (itN t n (⟨#[111, 110, 101, 111, 102]⟩ : ByteArray)).items.map (·.text), itN t n (⟨#[100, 101, 102, 97, 117, 108, 116]⟩ : ByteArray)⟩
theorem itN_zero (t : Vu) (k : ByteArray) : itN t 0 k = .zero := by unfold itN; rw [if_neg (by omega)]
theorem seenN_zero (t : Vu) (k : ByteArray) : seenN t 0 k = false := by unfold seenN; simp
theorem rdN_eq {t : Vu} (hs : Srt t.keys) : ∀ n, n ≤ t.keys.length → rdN t n = fieldN t n
  | 0, _ => by
    unfold fieldN rdN
    simp only [itN_zero, seenN_zero]
    rfl
  | n + 1, hn => by
    have ih := rdN_eq hs n (by omega)
    rw [rdN, ih]
    generalize hk : t.keys.getD n ⟨#[]⟩ = k
    have at1 : ∀ x, k = x → itN t (n + 1) x = t.items.getD n .zero ∧ itN t n x = .zero := fun x h => itN_at hs (by omega) (hk.trans h)
    have at2 : ∀ x, k = x → seenN t (n + 1) x = true := fun x h => seenN_at hs (by omega) (hk.trans h)
    have of1 : ∀ x, k ≠ x → itN t (n + 1) x = itN t n x := fun x h => itN_off (by rw [hk]; exact h)
    have of2 : ∀ x, k ≠ x → seenN t (n + 1) x = seenN t n x := fun x h => seenN_off (by rw [hk]; exact h)
    unfold rd1 fieldN
    by_cases h1 : k = (⟨#[114, 111, 117, 116, 101]⟩ : ByteArray)
    · rw [if_pos h1]
      subst h1
      simp only [at1 _ rfl, of1 _ (show (⟨#[114, 111, 117, 116, 101]⟩ : ByteArray) ≠ (⟨#[107, 105, 110, 100]⟩ : ByteArray) by decide), of1 _ (show (⟨#[114, 111, 117, 116, 101]⟩ : ByteArray) ≠ (⟨#[110, 101, 101, 100]⟩ : ByteArray) by decide), of1 _ (show (⟨#[114, 111, 117, 116, 101]⟩ : ByteArray) ≠ (⟨#[109, 105, 110]⟩ : ByteArray) by decide), of1 _ (show (⟨#[114, 111, 117, 116, 101]⟩ : ByteArray) ≠ (⟨#[109, 97, 120]⟩ : ByteArray) by decide), of1 _ (show (⟨#[114, 111, 117, 116, 101]⟩ : ByteArray) ≠ (⟨#[111, 110, 101, 111, 102]⟩ : ByteArray) by decide), of1 _ (show (⟨#[114, 111, 117, 116, 101]⟩ : ByteArray) ≠ (⟨#[100, 101, 102, 97, 117, 108, 116]⟩ : ByteArray) by decide), of2 _ (show (⟨#[114, 111, 117, 116, 101]⟩ : ByteArray) ≠ (⟨#[107, 105, 110, 100]⟩ : ByteArray) by decide), of2 _ (show (⟨#[114, 111, 117, 116, 101]⟩ : ByteArray) ≠ (⟨#[109, 105, 110]⟩ : ByteArray) by decide), of2 _ (show (⟨#[114, 111, 117, 116, 101]⟩ : ByteArray) ≠ (⟨#[109, 97, 120]⟩ : ByteArray) by decide)]
    rw [if_neg h1]
    by_cases h2 : k = (⟨#[107, 105, 110, 100]⟩ : ByteArray)
    · rw [if_pos h2]
      subst h2
      simp only [at1 _ rfl, at2 _ rfl, if_true, of1 _ (show (⟨#[107, 105, 110, 100]⟩ : ByteArray) ≠ (⟨#[114, 111, 117, 116, 101]⟩ : ByteArray) by decide), of1 _ (show (⟨#[107, 105, 110, 100]⟩ : ByteArray) ≠ (⟨#[110, 101, 101, 100]⟩ : ByteArray) by decide), of1 _ (show (⟨#[107, 105, 110, 100]⟩ : ByteArray) ≠ (⟨#[109, 105, 110]⟩ : ByteArray) by decide), of1 _ (show (⟨#[107, 105, 110, 100]⟩ : ByteArray) ≠ (⟨#[109, 97, 120]⟩ : ByteArray) by decide), of1 _ (show (⟨#[107, 105, 110, 100]⟩ : ByteArray) ≠ (⟨#[111, 110, 101, 111, 102]⟩ : ByteArray) by decide), of1 _ (show (⟨#[107, 105, 110, 100]⟩ : ByteArray) ≠ (⟨#[100, 101, 102, 97, 117, 108, 116]⟩ : ByteArray) by decide), of2 _ (show (⟨#[107, 105, 110, 100]⟩ : ByteArray) ≠ (⟨#[109, 105, 110]⟩ : ByteArray) by decide), of2 _ (show (⟨#[107, 105, 110, 100]⟩ : ByteArray) ≠ (⟨#[109, 97, 120]⟩ : ByteArray) by decide)]
    rw [if_neg h2]
    by_cases h3 : k = (⟨#[110, 101, 101, 100]⟩ : ByteArray)
    · rw [if_pos h3]
      subst h3
      simp only [at1 _ rfl, of1 _ (show (⟨#[110, 101, 101, 100]⟩ : ByteArray) ≠ (⟨#[114, 111, 117, 116, 101]⟩ : ByteArray) by decide), of1 _ (show (⟨#[110, 101, 101, 100]⟩ : ByteArray) ≠ (⟨#[107, 105, 110, 100]⟩ : ByteArray) by decide), of1 _ (show (⟨#[110, 101, 101, 100]⟩ : ByteArray) ≠ (⟨#[109, 105, 110]⟩ : ByteArray) by decide), of1 _ (show (⟨#[110, 101, 101, 100]⟩ : ByteArray) ≠ (⟨#[109, 97, 120]⟩ : ByteArray) by decide), of1 _ (show (⟨#[110, 101, 101, 100]⟩ : ByteArray) ≠ (⟨#[111, 110, 101, 111, 102]⟩ : ByteArray) by decide), of1 _ (show (⟨#[110, 101, 101, 100]⟩ : ByteArray) ≠ (⟨#[100, 101, 102, 97, 117, 108, 116]⟩ : ByteArray) by decide), of2 _ (show (⟨#[110, 101, 101, 100]⟩ : ByteArray) ≠ (⟨#[107, 105, 110, 100]⟩ : ByteArray) by decide), of2 _ (show (⟨#[110, 101, 101, 100]⟩ : ByteArray) ≠ (⟨#[109, 105, 110]⟩ : ByteArray) by decide), of2 _ (show (⟨#[110, 101, 101, 100]⟩ : ByteArray) ≠ (⟨#[109, 97, 120]⟩ : ByteArray) by decide)]
    rw [if_neg h3]
    by_cases h4 : k = (⟨#[109, 105, 110]⟩ : ByteArray)
    · rw [if_pos h4]
      subst h4
      simp only [at1 _ rfl, at2 _ rfl, Bool.true_or, of1 _ (show (⟨#[109, 105, 110]⟩ : ByteArray) ≠ (⟨#[114, 111, 117, 116, 101]⟩ : ByteArray) by decide), of1 _ (show (⟨#[109, 105, 110]⟩ : ByteArray) ≠ (⟨#[107, 105, 110, 100]⟩ : ByteArray) by decide), of1 _ (show (⟨#[109, 105, 110]⟩ : ByteArray) ≠ (⟨#[110, 101, 101, 100]⟩ : ByteArray) by decide), of1 _ (show (⟨#[109, 105, 110]⟩ : ByteArray) ≠ (⟨#[109, 97, 120]⟩ : ByteArray) by decide), of1 _ (show (⟨#[109, 105, 110]⟩ : ByteArray) ≠ (⟨#[111, 110, 101, 111, 102]⟩ : ByteArray) by decide), of1 _ (show (⟨#[109, 105, 110]⟩ : ByteArray) ≠ (⟨#[100, 101, 102, 97, 117, 108, 116]⟩ : ByteArray) by decide), of2 _ (show (⟨#[109, 105, 110]⟩ : ByteArray) ≠ (⟨#[107, 105, 110, 100]⟩ : ByteArray) by decide), of2 _ (show (⟨#[109, 105, 110]⟩ : ByteArray) ≠ (⟨#[109, 97, 120]⟩ : ByteArray) by decide)]
    rw [if_neg h4]
    by_cases h5 : k = (⟨#[109, 97, 120]⟩ : ByteArray)
    · rw [if_pos h5]
      subst h5
      simp only [at1 _ rfl, at2 _ rfl, Bool.or_true, of1 _ (show (⟨#[109, 97, 120]⟩ : ByteArray) ≠ (⟨#[114, 111, 117, 116, 101]⟩ : ByteArray) by decide), of1 _ (show (⟨#[109, 97, 120]⟩ : ByteArray) ≠ (⟨#[107, 105, 110, 100]⟩ : ByteArray) by decide), of1 _ (show (⟨#[109, 97, 120]⟩ : ByteArray) ≠ (⟨#[110, 101, 101, 100]⟩ : ByteArray) by decide), of1 _ (show (⟨#[109, 97, 120]⟩ : ByteArray) ≠ (⟨#[109, 105, 110]⟩ : ByteArray) by decide), of1 _ (show (⟨#[109, 97, 120]⟩ : ByteArray) ≠ (⟨#[111, 110, 101, 111, 102]⟩ : ByteArray) by decide), of1 _ (show (⟨#[109, 97, 120]⟩ : ByteArray) ≠ (⟨#[100, 101, 102, 97, 117, 108, 116]⟩ : ByteArray) by decide), of2 _ (show (⟨#[109, 97, 120]⟩ : ByteArray) ≠ (⟨#[107, 105, 110, 100]⟩ : ByteArray) by decide), of2 _ (show (⟨#[109, 97, 120]⟩ : ByteArray) ≠ (⟨#[109, 105, 110]⟩ : ByteArray) by decide)]
    rw [if_neg h5]
    by_cases h6 : k = (⟨#[111, 110, 101, 111, 102]⟩ : ByteArray)
    · rw [if_pos h6]
      subst h6
      obtain ⟨e1, e2⟩ := at1 _ rfl
      simp only [e1, e2, of1 _ (show (⟨#[111, 110, 101, 111, 102]⟩ : ByteArray) ≠ (⟨#[114, 111, 117, 116, 101]⟩ : ByteArray) by decide), of1 _ (show (⟨#[111, 110, 101, 111, 102]⟩ : ByteArray) ≠ (⟨#[107, 105, 110, 100]⟩ : ByteArray) by decide), of1 _ (show (⟨#[111, 110, 101, 111, 102]⟩ : ByteArray) ≠ (⟨#[110, 101, 101, 100]⟩ : ByteArray) by decide), of1 _ (show (⟨#[111, 110, 101, 111, 102]⟩ : ByteArray) ≠ (⟨#[109, 105, 110]⟩ : ByteArray) by decide), of1 _ (show (⟨#[111, 110, 101, 111, 102]⟩ : ByteArray) ≠ (⟨#[109, 97, 120]⟩ : ByteArray) by decide), of1 _ (show (⟨#[111, 110, 101, 111, 102]⟩ : ByteArray) ≠ (⟨#[100, 101, 102, 97, 117, 108, 116]⟩ : ByteArray) by decide), of2 _ (show (⟨#[111, 110, 101, 111, 102]⟩ : ByteArray) ≠ (⟨#[107, 105, 110, 100]⟩ : ByteArray) by decide), of2 _ (show (⟨#[111, 110, 101, 111, 102]⟩ : ByteArray) ≠ (⟨#[109, 105, 110]⟩ : ByteArray) by decide), of2 _ (show (⟨#[111, 110, 101, 111, 102]⟩ : ByteArray) ≠ (⟨#[109, 97, 120]⟩ : ByteArray) by decide)]
      rfl
    rw [if_neg h6]
    by_cases h7 : k = (⟨#[100, 101, 102, 97, 117, 108, 116]⟩ : ByteArray)
    · rw [if_pos h7]
      subst h7
      simp only [at1 _ rfl, of1 _ (show (⟨#[100, 101, 102, 97, 117, 108, 116]⟩ : ByteArray) ≠ (⟨#[114, 111, 117, 116, 101]⟩ : ByteArray) by decide), of1 _ (show (⟨#[100, 101, 102, 97, 117, 108, 116]⟩ : ByteArray) ≠ (⟨#[107, 105, 110, 100]⟩ : ByteArray) by decide), of1 _ (show (⟨#[100, 101, 102, 97, 117, 108, 116]⟩ : ByteArray) ≠ (⟨#[110, 101, 101, 100]⟩ : ByteArray) by decide), of1 _ (show (⟨#[100, 101, 102, 97, 117, 108, 116]⟩ : ByteArray) ≠ (⟨#[109, 105, 110]⟩ : ByteArray) by decide), of1 _ (show (⟨#[100, 101, 102, 97, 117, 108, 116]⟩ : ByteArray) ≠ (⟨#[109, 97, 120]⟩ : ByteArray) by decide), of1 _ (show (⟨#[100, 101, 102, 97, 117, 108, 116]⟩ : ByteArray) ≠ (⟨#[111, 110, 101, 111, 102]⟩ : ByteArray) by decide), of2 _ (show (⟨#[100, 101, 102, 97, 117, 108, 116]⟩ : ByteArray) ≠ (⟨#[107, 105, 110, 100]⟩ : ByteArray) by decide), of2 _ (show (⟨#[100, 101, 102, 97, 117, 108, 116]⟩ : ByteArray) ≠ (⟨#[109, 105, 110]⟩ : ByteArray) by decide), of2 _ (show (⟨#[100, 101, 102, 97, 117, 108, 116]⟩ : ByteArray) ≠ (⟨#[109, 97, 120]⟩ : ByteArray) by decide)]
    rw [if_neg h7]
    simp only [of1 _ h1, of1 _ h2, of1 _ h3, of1 _ h4, of1 _ h5, of1 _ h6, of1 _ h7, of2 _ h2, of2 _ h4, of2 _ h5]
theorem any_not : nameI (⟨#[97, 110, 121]⟩ : ByteArray) = -1 := by
  unfold nameI names
  iterate 7 rw [idxS_next (by decide) (by decide)]
  exact idxS_end (by decide)
theorem readF_eq {t : Vu} (hs : Srt t.keys) (hl : lackB t = false) (hk : known (itemK t (⟨#[107, 105, 110, 100]⟩ : ByteArray)).text = true) : readF t = fieldR t := by
  unfold readF
  rw [rdN_eq hs _ (Nat.le_refl _)]
  unfold fieldN fieldR
  simp only [itN_all, seenN_all]
  unfold lackB at hl
  simp only [Bool.or_eq_false_iff, Bool.not_eq_false'] at hl
  obtain ⟨⟨h1, h2⟩, h3⟩ := hl
  have h3 : hasK t (⟨#[109, 105, 110]⟩ : ByteArray) = hasK t (⟨#[109, 97, 120]⟩ : ByteArray) := by simpa using h3
  rw [h2, h3, Bool.or_self, if_pos rfl]
  have e : kindV (itemK t (⟨#[107, 105, 110, 100]⟩ : ByteArray)).text = nameI (itemK t (⟨#[107, 105, 110, 100]⟩ : ByteArray)).text := by
    unfold kindV
    unfold known at hk
    by_cases ha : (itemK t (⟨#[107, 105, 110, 100]⟩ : ByteArray)).text = (⟨#[97, 110, 121]⟩ : ByteArray)
    · rw [if_pos ha, ha, any_not]
    · rw [if_neg ha]
      rw [decide_eq_false ha, Bool.false_or, decide_eq_true_eq] at hk
      rw [if_pos hk]
  rw [e]
/-- The answer. -/
def Sch : Type := List Fd × Bool × Int
open Classical in
noncomputable def readS (schemaE : List Fd → Int) (v : Vu) : List Fd × Bool × Int :=
  if checkE v ≠ 0 then ([], false, checkE v) else if wrongK v then ([], false, 10) else if wrongN v then ([], false, 12) else if ∃ i, i < (flds v).length ∧ lackB ((flds v).getD i .zero) = true then ([], false, 7)
  else if schemaE ((flds v).map readF) ≠ 0 then ([], false, schemaE ((flds v).map readF)) else ((flds v).map readF, (itemK v (⟨#[115, 116, 114, 105, 99, 116]⟩ : ByteArray)).b, 0)
end rs
end Go.Proofs.YtgdoelfajfjopaaGreatDoor
