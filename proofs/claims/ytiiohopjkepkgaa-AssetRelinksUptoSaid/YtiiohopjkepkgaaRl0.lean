/-
  Links put anew: the plain law.
-/
import Derived.Test.YtiiohopjkepkgaaLk1
namespace Go.Proofs.Ytiiohopjkepkgaa
open Go.RowKit
set_option linter.unusedVariables false
set_option linter.unusedSimpArgs false
namespace rl
open tk
/-- Links lie one behind the other in a text. -/
def Ord (s : ByteArray) (l : List Lk) : Prop := ∀ k, k < l.length → ∃ f e : Nat, (l.getD k .zero).f = f ∧ (l.getD k .zero).e = e ∧ f ≤ e ∧ e ≤ s.size ∧ ∀ i, i < k → (l.getD i .zero).e ≤ f
theorem getD_app (l : List Lk) (t : Lk) (k : Nat) : (k < l.length → (l ++ [t]).getD k .zero = l.getD k .zero) ∧ (l ++ [t]).getD l.length .zero = t := by
  refine ⟨fun h => ?_, by simp [List.getD]⟩
  simp only [List.getD]
  rw [List.getElem?_append_left h]
theorem endp_s (l : List Tk) (k : Nat) : endp l (k + 1) = (l.getD k .zero).e := by
  unfold endp
  rw [if_neg (by omega)]
  rfl
theorem ord_lk {s : ByteArray} {l : List Tk} (h : AllOk s false l) : ∀ m, m ≤ l.length → Ord s (lkP l m) ∧ ∀ i, i < (lkP l m).length → ((lkP l m).getD i .zero).e ≤ endp l m
  | 0, _ => ⟨fun k hk => by simp [lkP] at hk, fun i hi => by simp [lkP] at hi⟩
  | m + 1, hm => by
    obtain ⟨h1, h2⟩ := ord_lk h m (by omega)
    obtain ⟨⟨f, e, hf, he, hlt, hes, g3, g4, _⟩, hfe⟩ := h m (by omega)
    have hmono : endp l m ≤ endp l (m + 1) := by rw [endp_s, he, ← hfe, hf]; omega
    cases hc : lkC l m
    · rw [lkP_no hc]
      exact ⟨h1, fun i hi => Int.le_trans (h2 i hi) hmono⟩
    · rw [lkP_yes hc]
      have hk2 : (l.getD m .zero).k = 2 := by
        unfold lkC at hc
        simp only [Bool.and_eq_true, decide_eq_true_eq] at hc
        exact hc.2.2.2.2.1
      have hz := g4 hk2
      have e1 : (lkM (l.getD m .zero)).f = ((f + 1 : Nat) : Int) := by show (l.getD m .zero).f + 1 = _; rw [hf]; omega
      have e2 : (lkM (l.getD m .zero)).e = ((e - 1 : Nat) : Int) := by show (l.getD m .zero).e - 1 = _; rw [he]; omega
      have e3 : endp l m = f := hfe.symm.trans hf
      refine ⟨fun k hk => ?_, fun i hi => ?_⟩
      · rw [List.length_append] at hk
        have hk : k < (lkP l m).length + 1 := hk
        by_cases hkl : k < (lkP l m).length
        · rw [(getD_app _ _ k).1 hkl]
          obtain ⟨f', e', q1, q2, q3, q4, q5⟩ := h1 k hkl
          exact ⟨f', e', q1, q2, q3, q4, fun i hi => by rw [(getD_app _ _ i).1 (by omega)]; exact q5 i hi⟩
        · obtain rfl : k = (lkP l m).length := by omega
          rw [(getD_app _ _ 0).2]
          refine ⟨f + 1, e - 1, e1, e2, by omega, by omega, fun i hi => ?_⟩
          rw [(getD_app _ _ i).1 hi]
          have := h2 i hi
          omega
      · rw [List.length_append] at hi
        have hi : i < (lkP l m).length + 1 := hi
        by_cases hil : i < (lkP l m).length
        · rw [(getD_app _ _ i).1 hil]
          exact Int.le_trans (h2 i hil) hmono
        · obtain rfl : i = (lkP l m).length := by omega
          rw [(getD_app _ _ 0).2, e2, endp_s, he]
          omega
/-! ## Names -/
abbrev Nm := ByteArray × ByteArray
def nz : Nm := (⟨#[]⟩, ⟨#[]⟩)
/-- The name that stands for a path. -/
def nmL (l : List Nm) (p : ByteArray) : Option ByteArray := (l.find? fun x => decide (x.1 = p)).map (·.2)
theorem nmL_snoc (l : List Nm) (x : Nm) (p : ByteArray) : nmL (l ++ [x]) p = (nmL l p).or (if x.1 = p then some x.2 else none) := by
  unfold nmL
  rw [List.find?_append]
  cases l.find? fun x => decide (x.1 = p) with
  | some y => rfl
  | none =>
    by_cases h : x.1 = p
    · rw [if_pos h]; simp [List.find?, h]
    · rw [if_neg h]; simp [List.find?, h]
theorem nmL_take {l : List Nm} {k : Nat} (h : k < l.length) (p : ByteArray) : nmL (l.take (k + 1)) p = (nmL (l.take k) p).or (if (l.getD k nz).1 = p then some (l.getD k nz).2 else none) := by
  have : l.take (k + 1) = l.take k ++ [l.getD k nz] := by
    rw [List.take_add_one]
    simp [List.getD, h]
  rw [this, nmL_snoc]
theorem nmL_mem {l : List Nm} {p n : ByteArray} (h : nmL l p = some n) : ∃ k, k < l.length ∧ (l.getD k nz).2 = n := by
  unfold nmL at h
  obtain ⟨x, hx, rfl⟩ := Option.map_eq_some_iff.1 h
  obtain ⟨k, hk, rfl⟩ := List.getElem_of_mem (List.mem_of_find?_eq_some hx)
  exact ⟨k, hk, by simp [List.getD, hk]⟩
/-- The path stands among those ahead. -/
def dupN (l : List Nm) (k : Nat) : Bool := (nmL (l.take k) (l.getD k nz).1).isSome
def badC (c : Nat) : Bool := decide (c < 33) || (decide (c = 34) || (decide (c = 39) || (decide (c = 92) || decide (c = 127))))
/-- The name has bytes that cannot be in one. -/
def badN (s : ByteArray) : Bool := !allN s.size (fun k => decide (badC (at_ s k) = false))
theorem badN_yes {s : ByteArray} {k : Nat} (hk : k < s.size) (h : badC (at_ s k) = true) : badN s = true := by
  unfold badN
  cases he : allN s.size (fun k => decide (badC (at_ s k) = false))
  · rfl
  · have := allN_iff.1 he k hk
    rw [h] at this
    exact absurd this (by decide)
theorem badN_no {s : ByteArray} (h : allN s.size (fun k => decide (badC (at_ s k) = false)) = true) : badN s = false := by unfold badN; rw [h]; rfl
/-- What is wrong with names, from a place on. -/
def nmE (l : List Nm) (k : Nat) : Int := if k < l.length then (if dupN l k = true then 6 else if badN (l.getD k nz).2 = true then 9 else nmE l (k + 1)) else 0
  termination_by l.length - k
theorem nmE_end {l : List Nm} {k : Nat} (h : ¬ k < l.length) : nmE l k = 0 := by rw [nmE, if_neg h]
theorem nmE_dup {l : List Nm} {k : Nat} (h : k < l.length) (h2 : dupN l k = true) : nmE l k = 6 := by rw [nmE, if_pos h, if_pos h2]
theorem nmE_bad {l : List Nm} {k : Nat} (h : k < l.length) (h2 : dupN l k = false) (h3 : badN (l.getD k nz).2 = true) : nmE l k = 9 := by rw [nmE, if_pos h, if_neg (by rw [h2]; decide), if_pos h3]
theorem nmE_next {l : List Nm} {k : Nat} (h : k < l.length) (h2 : dupN l k = false) (h3 : badN (l.getD k nz).2 = false) : nmE l k = nmE l (k + 1) := by rw [nmE, if_pos h, if_neg (by rw [h2]; decide), if_neg (by rw [h3]; decide)]
/-! ## The text -/
section
variable (s : ByteArray) (nm : ByteArray → Option ByteArray) (l : List Lk)
def stepR (x : Lk) (q : ByteArray × Nat) : ByteArray × Nat := match nm x.p with
  | none => q
  | some n => (q.1 ++ (s.extract q.2 x.f.toNat ++ n), x.e.toNat)
/-- The text ahead of a link, and where it goes on. -/
def rlK : Nat → ByteArray × Nat
  | 0 => (⟨#[]⟩, 0)
  | k + 1 => stepR s nm (l.getD k .zero) (rlK k)
def growR (x : Lk) : Int := match nm x.p with
  | none => 0
  | some n => (n.size : Int) - (x.e - x.f)
def szK : Nat → Int
  | 0 => 0
  | k + 1 => szK k + growR nm (l.getD k .zero)
def rlS : ByteArray := (rlK s nm l l.length).1 ++ s.extract (rlK s nm l l.length).2 s.size
variable {s nm l}
theorem rlK_no {k : Nat} (h : nm (l.getD k .zero).p = none) : rlK s nm l (k + 1) = rlK s nm l k ∧ szK nm l (k + 1) = szK nm l k := by
  refine ⟨?_, ?_⟩
  · show stepR s nm _ _ = _
    unfold stepR; rw [h]
  · show szK nm l k + growR nm _ = _
    unfold growR; rw [h]; exact Int.add_zero _
theorem rlK_yes {k : Nat} {n : ByteArray} (h : nm (l.getD k .zero).p = some n) : rlK s nm l (k + 1) = ((rlK s nm l k).1 ++ (s.extract (rlK s nm l k).2 (l.getD k .zero).f.toNat ++ n), (l.getD k .zero).e.toNat) ∧ szK nm l (k + 1) = szK nm l k + ((n.size : Int) - ((l.getD k .zero).e - (l.getD k .zero).f)) := by
  refine ⟨?_, ?_⟩
  · show stepR s nm _ _ = _
    unfold stepR; rw [h]
  · show szK nm l k + growR nm _ = _
    unfold growR; rw [h]
theorem rlK_at (ho : Ord s l) : ∀ k, k ≤ l.length → (rlK s nm l k).2 ≤ s.size ∧ ((rlK s nm l k).1.size : Int) = (rlK s nm l k).2 + szK nm l k ∧ ∀ j, k ≤ j → j < l.length → ((rlK s nm l k).2 : Int) ≤ (l.getD j .zero).f
  | 0, _ => ⟨Nat.zero_le _, rfl, fun j _ hj => by
      obtain ⟨f, e, hf, _⟩ := ho j hj
      rw [hf]
      exact Int.natCast_nonneg _⟩
  | k + 1, hk => by
    obtain ⟨h1, h2, h3⟩ := rlK_at ho k (by omega)
    cases hn : nm (l.getD k .zero).p with
    | none =>
      obtain ⟨e1, e2⟩ := rlK_no (s := s) hn
      rw [e1, e2]
      exact ⟨h1, h2, fun j hj hjl => h3 j (by omega) hjl⟩
    | some n =>
      obtain ⟨e1, e2⟩ := rlK_yes (s := s) hn
      rw [e1, e2]
      obtain ⟨f, e, hf, he, hfe, hes, _⟩ := ho k (by omega)
      have h4 := h3 k (Nat.le_refl _) (by omega)
      rw [hf] at h4
      rw [hf, he]
      refine ⟨?_, ?_, fun j hj hjl => ?_⟩
      · show (e : Int).toNat ≤ _
        omega
      · show (((rlK s nm l k).1 ++ (s.extract (rlK s nm l k).2 (f : Int).toNat ++ n)).size : Int) = (((e : Int).toNat : Nat) : Int) + _
        rw [ByteArray.size_append, ByteArray.size_append, ByteArray.size_extract]
        have : min (f : Int).toNat s.size = f := by omega
        rw [this]
        omega
      · show (((e : Int).toNat : Nat) : Int) ≤ _
        obtain ⟨f', e', hf', _, _, _, hp⟩ := ho j hjl
        have := hp k (by omega)
        rw [hf', ← he] at *
        omega
theorem rlS_size (ho : Ord s l) : ((rlS s nm l).size : Int) = s.size + szK nm l l.length := by
  obtain ⟨h1, h2, _⟩ := rlK_at (nm := nm) ho l.length (Nat.le_refl _)
  unfold rlS
  rw [ByteArray.size_append, ByteArray.size_extract]
  omega
theorem szK_max (ho : Ord s l) (hn : ∀ p n, nm p = some n → n.size ≤ 1048576) : ∀ k, k ≤ l.length → szK nm l k ≤ 1048576 * k
  | 0, _ => by simp [szK]
  | k + 1, hk => by
    have h1 := szK_max ho hn k (by omega)
    obtain ⟨f, e, hf, he, hfe, _⟩ := ho k (by omega)
    cases hnn : nm (l.getD k .zero).p with
    | none =>
      rw [(rlK_no (s := s) hnn).2]
      omega
    | some n =>
      rw [(rlK_yes (s := s) hnn).2, hf, he]
      have := hn _ _ hnn
      omega
end
end rl
end Go.Proofs.Ytiiohopjkepkgaa
