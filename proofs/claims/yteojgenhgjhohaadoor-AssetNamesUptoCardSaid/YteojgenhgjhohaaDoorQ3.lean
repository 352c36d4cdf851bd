/-
  Small contracts by data: bytes, keys, days of settings. Keys of settings. Fields that a kind does not use.
-/
import Derived.Test.YteojgenhgjhohaaDoorQ0
namespace Go.Proofs.YteojgenhgjhohaaDoor
open Go.RowKit
set_option linter.unusedVariables false
set_option linter.unusedSimpArgs false

theorem Sp.of_v2 {κ : Type} {X : Cx κ} {f : FuncId} {vs : List Value} {x : Value} (he : Ent X.P f) (hx : (∀ y ∈ vs, okB y = true) → okB x = true) (h : ∀ w, X.G w → (∀ y ∈ vs, okB y = true) → Calls X.P f vs.toArray w fun e w' => e = .returned x ∧ Below w.heap.size w w') : Sp X f (vs.map .v) (.v x) := by
  refine .inl ⟨he, fun M β w ws hG hMG hM hl hr hp hb => ?_⟩
  have hv : ∀ i (h3 : i < vs.length), ws.getD i undef = vs[i] ∧ okB vs[i] = true := fun i h3 => by
    have := hr i (.v vs[i]) (by simp [h3])
    exact this.val
  have hok : ∀ y ∈ vs, okB y = true := fun y hy => by
    obtain ⟨i, hi, rfl⟩ := List.getElem_of_mem hy
    exact (hv i hi).2
  have e : ws = vs.toArray := by
    apply Array.ext
    · simpa using hl
    · intro i h1 h2
      have h3 : i < vs.length := by simpa using h2
      have := (hv i h3).1
      simp [Array.getD, h1] at this
      simpa using this
  rw [e]
  exact (h w hG hok).mono fun e w' ⟨h1, h2⟩ => ⟨x, M, β, h1, Kp.of h2 _, fun _ _ _ => rfl, fun _ _ h => h, fun _ _ h => .inl h, .v (hx hok), ⟨fun l o hm => (by cases hm), fun l o l' o' b c c' hm => (by cases hm)⟩, fun b ⟨l, o, c, hm, _⟩ => (by cases hm)⟩
theorem Sp.of_v {κ : Type} {X : Cx κ} {f : FuncId} {vs : List Value} {x : Value} (he : Ent X.P f) (hx : okB x = true) (h : ∀ w, X.G w → Calls X.P f vs.toArray w fun e w' => e = .returned x ∧ Below w.heap.size w w') : Sp X f (vs.map .v) (.v x) :=
  Sp.of_v2 he (fun _ => hx) (fun w hG _ => h w hG)

theorem take_snoc {α : Type} (l : List α) (d : α) (k : Nat) (h : k < l.length) : l.take (k + 1) = l.take k ++ [l.getD k d] := by
  rw [List.take_succ_eq_append_getElem h]
  simp [List.getD, h]
theorem getD_mem {α : Type} (l : List α) (d : α) (k : Nat) (h : k < l.length) : l.getD k d ∈ l := by
  simp [List.getD, h]
def allN (n : Nat) (p : Nat → Bool) : Bool := (List.range n).all p
theorem allN_iff {n : Nat} {p : Nat → Bool} : allN n p = true ↔ ∀ k, k < n → p k = true := by simp [allN]
theorem allN_no {n k : Nat} {p : Nat → Bool} (h : k < n) (hp : p k = false) : allN n p = false := by
  cases e : allN n p
  · rfl
  · rw [allN_iff] at e; rw [e k h] at hp; cases hp
theorem allN_succ {n : Nat} {p : Nat → Bool} (h : allN n p = true) (hp : p n = true) : allN (n + 1) p = true := by
  rw [allN_iff] at h ⊢
  intro k hk
  rcases Nat.lt_or_ge k n with h1 | h1
  · exact h k h1
  · obtain rfl : k = n := by omega
    exact hp

def smallB (c : UInt8) : Bool := decide (97 ≤ c.toNat) && decide (c.toNat ≤ 122)
def digitB (c : UInt8) : Bool := decide (48 ≤ c.toNat) && decide (c.toNat ≤ 57)
def kchB (c : UInt8) : Bool := smallB c || digitB c || decide (c.toNat = 45) || decide (c.toNat = 95)
@[irreducible] def keyOkB (s : ByteArray) : Bool := decide (0 < s.size) && decide (s.size ≤ 40) && smallB (bAt s 0) && allN s.size (fun k => kchB (bAt s k))
def badCh (c : UInt8) : Bool := decide (c.toNat < 32) && !decide (c.toNat = 9) && !decide (c.toNat = 10)
@[irreducible] def badStr (s : ByteArray) : Bool := !allN s.size (fun k => !badCh (bAt s k))

section
variable (E : Env)
set_option maxRecDepth 100000

end
end Go.Proofs.YteojgenhgjhohaaDoor
namespace Go.Proofs.YteojgenhgjhohaaDoor
open Go.RowKit
set_option linter.unusedVariables false
set_option linter.unusedSimpArgs false
theorem str_pos {s : ByteArray} (h : ¬ s = ⟨#[]⟩) : 0 < s.size := by
  rcases Nat.eq_zero_or_pos s.size with h0 | h0
  · exact absurd (by cases s with | mk d => exact congrArg _ (Array.eq_empty_of_size_eq_zero h0)) h
  · exact h0
section
variable (E : Env)
set_option maxRecDepth 100000

end
end Go.Proofs.YteojgenhgjhohaaDoor
namespace Go.Proofs.YteojgenhgjhohaaDoor
open Go.RowKit
set_option linter.unusedVariables false
set_option linter.unusedSimpArgs false
def unusedP (v : Vu) : Prop :=
  (v.b = true ∧ v.kind ≠ 1) ∨ (v.i ≠ 0 ∧ v.kind ≠ 2 ∧ v.kind ≠ 4) ∨ (v.text ≠ ⟨#[]⟩ ∧ v.kind ≠ 3) ∨ (0 < v.items.length ∧ v.kind ≠ 5 ∧ v.kind ≠ 6) ∨ (0 < v.keys.length ∧ v.kind ≠ 6) ∨ (v.kind = 6 ∧ v.keys.length ≠ v.items.length)
instance (v : Vu) : Decidable (unusedP v) := by unfold unusedP; infer_instance
def badDayP (n : Int) : Prop := n < 0 ∨ 84005 < n
instance (n : Int) : Decidable (badDayP n) := by unfold badDayP; infer_instance
section
variable (E : Env)
set_option maxRecDepth 100000
end
end Go.Proofs.YteojgenhgjhohaaDoor
