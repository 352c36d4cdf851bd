/-
  strings.Join over rows of strings.
-/
import Derived.Test.YtagggnjcpjodjaaDoorN18
import Derived.Test.YtagggnjcpjodjaaDoorQ8
import Derived.Test.YtagggnjcpjodjaaDoorShelf
namespace Go.Proofs.YtagggnjcpjodjaaDoor
open Go.RowKit
set_option linter.unusedVariables false
set_option linter.unusedSimpArgs false
/-- Strings joined. -/
def joinS (l : List ByteArray) (sep : ByteArray) : ByteArray := ⟨(Lib.join (l.map (·.data.toList)) sep.data.toList).toArray⟩
theorem intercalate_len (sep : List UInt8) : ∀ l : List (List UInt8), (sep.intercalate l).length ≤ (l.map fun p => p.length + sep.length).sum
  | [] => by simp [List.intercalate]
  | [a] => by simp [List.intercalate]
  | a :: b :: l => by
    have ih := intercalate_len sep (b :: l)
    have e : sep.intercalate (a :: b :: l) = a ++ (sep ++ sep.intercalate (b :: l)) := by simp [List.intercalate, List.intersperse]
    rw [e]
    simp only [List.length_append, List.map_cons, List.sum_cons] at ih ⊢
    omega
theorem joinS_len (l : List ByteArray) (sep : ByteArray) : (joinS l sep).size ≤ (l.map fun p => p.size + sep.size).sum := by
  have := intercalate_len sep.data.toList (l.map (·.data.toList))
  rw [List.map_map] at this
  exact this
theorem joinS_max {l : List ByteArray} {sep : ByteArray} {m : Nat} (h : ∀ p ∈ l, p.size + sep.size ≤ m) : (joinS l sep).size ≤ l.length * m := by
  refine Nat.le_trans (joinS_len l sep) ?_
  induction l with
  | nil => simp
  | cons a l ih =>
    have h1 := h a (List.mem_cons_self ..)
    have h2 := ih fun p hp => h p (List.mem_cons_of_mem _ hp)
    simp only [List.map_cons, List.sum_cons, List.length_cons, Nat.succ_mul]
    omega
section
variable (E : Env)
set_option maxRecDepth 100000
/-- A row of strings in the world. -/
theorem rep_strs {M : Nat → Nat → Prop} {w : World} {β : Bt} {l : List ByteArray} {x : Value} (h : Rep view M w β (encStrs l) x) :
    ∃ A c, x = .slice A l.length c ∧ l.length ≤ c ∧ c ≤ maxLen ∧ (l.length = 0 ∨ ∃ b o, A = some ⟨b, o, none⟩ ∧ ∀ j, j < l.length → M b (o + j) ∧ w.cell? ⟨b, o + j, none⟩ = some (.string (l.getD j ⟨#[]⟩))) := by
  unfold encStrs at h
  generalize hn : l.length = n at h
  cases h with
  | nil hc hA => exact ⟨_, _, rfl, Nat.zero_le _, hc, .inl rfl⟩
  | @sl _ _ _ _ c b o _ u hc hm hb hu hr =>
    refine ⟨_, _, rfl, hc, hm, .inr ⟨b, o, rfl, fun j hj => ?_⟩⟩
    obtain ⟨h1, h2, _⟩ := hu j 0 hj (Nat.lt_succ_self 0)
    have h3 := (hr j 0 hj (Nat.lt_succ_self 0)).val.1
    rw [Nat.mul_one, Nat.add_zero] at h1 h2
    rw [h3] at h2
    exact ⟨h1, h2⟩
theorem join_sp (l : List ByteArray) (sep : ByteArray) (hl : l.length ≤ 140737488355328) (hn : (joinS l sep).size ≤ 140737488355328) : Sp (cx Tryd.prog mixed tyT_ok E) 15 [encStrs l, dS sep] (dS (joinS l sep)) := by
  refine .inl ⟨⟨_, _, Tryd.func15, by kernel_rfl, rfl⟩, fun M β w vs hG hMG hM hlv hr hp hb => ?_⟩
  obtain ⟨A, c, h1, h2, h3, h4⟩ := rep_strs (hr 0 _ rfl)
  have h5 := (hr 1 _ rfl).val.1
  have evs : vs = #[.slice A l.length c, .string sep] := by
    apply Array.ext
    · simpa using hlv
    · intro i g1 g2
      match i, g2 with
      | 0, _ => simpa [Array.getD, g1] using h1
      | 1, _ => simpa [Array.getD, g1] using h5
  rw [evs]
  have key : Calls Tryd.prog 15 #[.slice A l.length c, .string sep] w fun e w' => e = .returned (.string (joinS l sep)) ∧ Below w.heap.size w w' := by
    rcases h4 with h4 | ⟨b, o, rfl, h4⟩
    · rw [h4]
      refine (Tryd.strings_Join_none A c sep w).mono fun e w' ⟨he, hw⟩ => ⟨?_, hw ▸ Below.refl _ _⟩
      obtain rfl : l = [] := List.eq_nil_of_length_eq_zero h4
      rw [he]
      rfl
    · rcases Nat.eq_zero_or_pos l.length with h0 | h0
      · rw [h0]
        refine (Tryd.strings_Join_none _ c sep w).mono fun e w' ⟨he, hw⟩ => ⟨?_, hw ▸ Below.refl _ _⟩
        obtain rfl : l = [] := List.eq_nil_of_length_eq_zero h0
        rw [he]
        rfl
      · exact Tryd.strings_Join b o c l sep w (fun j x hj => by
          obtain ⟨g1, g2⟩ := List.getElem?_eq_some_iff.1 hj
          have := (h4 j g1).2
          rw [this, ← g2]
          simp [List.getD, g1]) (hM b (o + 0) (h4 0 h0).1) hl h2 (by
          have : (Lib.join (l.map (·.data.toList)) sep.data.toList).length = (joinS l sep).size := rfl
          omega)
  refine key.mono fun e w' ⟨he, hw⟩ => ?_
  exact ⟨_, M, β, he, Kp.of hw _, fun _ _ _ => rfl, fun _ _ h => h, fun _ _ h => .inl h, .v (decide_eq_true (by unfold maxLen; omega)), ⟨fun l o hm => (by cases hm), fun l o l' o' b c c' hm => (by cases hm)⟩, fun b ⟨l, o, c, hm, _⟩ => (by cases hm)⟩
end
end Go.Proofs.YtagggnjcpjodjaaDoor
