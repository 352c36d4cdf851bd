/-
  The order of values is one: it turns about and carries over. The order of keyed items, plain. Ranks: positions in the order of their values; which are the first of their value; the search for a value.
-/
import Derived.Test.YthoemnhigboahaaGreatDoorSb0
import Derived.Test.YthoemnhigboahaaGreatDoorU7
import Derived.Test.YthoemnhigboahaaGreatDoorU5
import Derived.Test.YthoemnhigboahaaGreatDoorSrB
namespace Go.Proofs.YthoemnhigboahaaGreatDoor
open Go.RowKit
set_option linter.unusedVariables false
set_option linter.unusedSimpArgs false
namespace sb
def Tr (x y z : Int) : Prop := (x ≤ 0 → y ≤ 0 → z ≤ 0 ∧ (x < 0 ∨ y < 0 → z < 0)) ∧ (x = 0 → y = 0 → z = 0)
theorem Tr.n : Tr 0 0 0 := by unfold Tr; omega
theorem Tr.l (y : Int) : Tr (-1) y (-1) := by unfold Tr; omega
theorem Tr.l2 : Tr 0 (-1) (-1) := by unfold Tr; omega
theorem Tr.r (y z : Int) : Tr 1 y z := by unfold Tr; omega
theorem Tr.r2 (x z : Int) : Tr x 1 z := by unfold Tr; omega
theorem Tr.lex {x1 y1 z1 x2 y2 z2 : Int} (h1 : Tr x1 y1 z1) (h2 : x1 = 0 → y1 = 0 → Tr x2 y2 z2) : Tr (if x1 ≠ 0 then x1 else x2) (if y1 ≠ 0 then y1 else y2) (if z1 ≠ 0 then z1 else z2) := by
  unfold Tr at *
  by_cases a : x1 = 0
  · by_cases b : y1 = 0
    · have c := h1.2 a b
      rw [if_neg (by omega), if_neg (by omega), if_neg (by omega)]
      exact h2 a b
    · rw [if_neg (by omega), if_pos b]
      by_cases c : z1 = 0
      · rw [if_neg (by omega)]; omega
      · rw [if_pos c]; omega
  · rw [if_pos a]
    by_cases b : y1 = 0
    · rw [if_neg (by omega)]
      by_cases c : z1 = 0
      · rw [if_neg (by omega)]; omega
      · rw [if_pos c]; omega
    · rw [if_pos b]
      by_cases c : z1 = 0
      · rw [if_neg (by omega)]; omega
      · rw [if_pos c]; omega
theorem anti_lex {x1 y1 x2 y2 : Int} (h1 : y1 = -x1) (h2 : x1 = 0 → y2 = -x2) : (if y1 ≠ 0 then y1 else y2) = -(if x1 ≠ 0 then x1 else x2) := by
  by_cases a : x1 = 0
  · rw [if_neg (by omega), if_neg (by omega), h2 a]
  · rw [if_pos (by omega), if_pos a, h1]
theorem sgn_anti (a b : Int) : sgn b a = - sgn a b := by unfold sgn; repeat' split <;> omega
theorem sgn_tr (a b d : Int) : Tr (sgn a b) (sgn b d) (sgn a d) := by
  unfold Tr sgn
  by_cases h1 : a < b <;> by_cases h2 : b < a <;> by_cases h3 : b < d <;> by_cases h4 : d < b <;> by_cases h5 : a < d <;> by_cases h6 : d < a <;> simp [h1, h2, h3, h4, h5, h6] <;> omega
theorem cmpB_cons (x y : UInt8) (a b : List UInt8) : Lib.compareBytes (x :: a) (y :: b) = if sgn x.toNat y.toNat ≠ 0 then sgn x.toNat y.toNat else Lib.compareBytes a b := by
  rw [Lib.compareBytes]
  unfold sgn
  by_cases h : x = y
  · subst h
    simp
  · rcases UInt8.lt_or_lt_of_ne h with h2 | h2
    · have h3 := UInt8.lt_iff_toNat_lt.1 h2
      have h4 : ((x.toNat : Int) < y.toNat) := by omega
      simp [h2, h, h4]
    · have h3 := UInt8.lt_iff_toNat_lt.1 h2
      have h4 : ((y.toNat : Int) < x.toNat) := by omega
      have h5 : ¬ ((x.toNat : Int) < y.toNat) := by omega
      have h6 : ¬ x < y := UInt8.lt_asymm h2
      simp [h2, h, h4, h5, h6]
theorem cmpB_anti : ∀ a b : List UInt8, Lib.compareBytes b a = - Lib.compareBytes a b
  | [], [] => rfl
  | [], _ :: _ => rfl
  | _ :: _, [] => rfl
  | x :: a, y :: b => by
    rw [cmpB_cons, cmpB_cons]
    exact anti_lex (sgn_anti _ _) (fun _ => cmpB_anti a b)
theorem cmpB_tr : ∀ a b d : List UInt8, Tr (Lib.compareBytes a b) (Lib.compareBytes b d) (Lib.compareBytes a d)
  | [], [], [] => Tr.n
  | [], [], _ :: _ => Tr.l2
  | [], _ :: _, [] => Tr.r2 _ _
  | [], _ :: _, _ :: _ => Tr.l _
  | _ :: _, [], _ => Tr.r _ _
  | _ :: _, _ :: _, [] => Tr.r2 _ _
  | x :: a, y :: b, z :: d => by
    rw [cmpB_cons, cmpB_cons, cmpB_cons]
    exact (sgn_tr _ _ _).lex (fun _ _ => cmpB_tr a b d)
theorem cmpS_anti (a b : ByteArray) : cmpS b a = - cmpS a b := cmpB_anti _ _
theorem cmpS_tr (a b d : ByteArray) : Tr (cmpS a b) (cmpS b d) (cmpS a d) := cmpB_tr _ _ _
def cmpKL : List ByteArray → List ByteArray → Int
  | [], [] => 0
  | [], _ :: _ => -1
  | _ :: _, [] => 1
  | x :: r, y :: s => if cmpS x y ≠ 0 then cmpS x y else cmpKL r s
theorem cmpKL_anti : ∀ a b : List ByteArray, cmpKL b a = - cmpKL a b
  | [], [] => rfl
  | [], _ :: _ => rfl
  | _ :: _, [] => rfl
  | x :: a, y :: b => anti_lex (cmpS_anti _ _) (fun _ => cmpKL_anti a b)
theorem cmpKL_tr : ∀ a b d : List ByteArray, Tr (cmpKL a b) (cmpKL b d) (cmpKL a d)
  | [], [], [] => Tr.n
  | [], [], _ :: _ => Tr.l2
  | [], _ :: _, [] => Tr.r2 _ _
  | [], _ :: _, _ :: _ => Tr.l _
  | _ :: _, [], _ => Tr.r _ _
  | _ :: _, _ :: _, [] => Tr.r2 _ _
  | x :: a, y :: b, z :: d => (cmpS_tr x y z).lex (fun _ _ => cmpKL_tr a b d)
theorem cmpK_list (a b : List ByteArray) : ∀ (n k : Nat), a.length - k < n → k ≤ a.length → k ≤ b.length → cmpK a b k = cmpKL (a.drop k) (b.drop k)
  | 0, k, h, _, _ => by omega
  | n + 1, k, h, h1, h2 => by
    by_cases hk : k < a.length ∧ k < b.length
    · rw [drop_cons a ⟨#[]⟩ k hk.1, drop_cons b ⟨#[]⟩ k hk.2, cmpKL]
      by_cases he : cmpS (a.getD k ⟨#[]⟩) (b.getD k ⟨#[]⟩) = 0
      · rw [cmpK_eq hk he, cmpK_list a b n (k + 1) (by omega) (by omega) (by omega), if_neg (by omega)]
      · rw [cmpK_ne hk he, if_pos he]
    · rw [cmpK_end hk]
      rcases Nat.lt_or_ge k a.length with q | q
      · rw [drop_cons a ⟨#[]⟩ k q, List.drop_of_length_le (by omega : b.length ≤ k)]
        simp only [cmpKL, sgn]
        rw [if_neg (by omega), if_pos (by omega)]
      · rw [List.drop_of_length_le q]
        rcases Nat.lt_or_ge k b.length with q2 | q2
        · rw [drop_cons b ⟨#[]⟩ k q2]
          simp only [cmpKL, sgn]
          rw [if_pos (by omega)]
        · rw [List.drop_of_length_le q2]
          simp only [cmpKL, sgn]
          rw [if_neg (by omega), if_neg (by omega)]
theorem cmpK_zero (a b : List ByteArray) : cmpK a b 0 = cmpKL a b := cmpK_list a b (a.length + 1) 0 (by omega) (by omega) (by omega)
theorem cmpH_anti (a b : Vu) : cmpH b a = - cmpH a b := by
  unfold cmpH
  rw [cmpK_zero, cmpK_zero]
  exact anti_lex (sgn_anti _ _) fun _ => anti_lex (sgn_anti _ _) fun _ => anti_lex (sgn_anti _ _) fun _ => anti_lex (cmpS_anti _ _) fun _ => cmpKL_anti _ _
theorem cmpH_tr (a b d : Vu) : Tr (cmpH a b) (cmpH b d) (cmpH a d) := by
  unfold cmpH
  rw [cmpK_zero, cmpK_zero, cmpK_zero]
  exact (sgn_tr _ _ _).lex fun _ _ => (sgn_tr _ _ _).lex fun _ _ => (sgn_tr _ _ _).lex fun _ _ => (cmpS_tr _ _ _).lex fun _ _ => cmpKL_tr _ _ _
mutual
theorem cmpV_anti : ∀ a b : Vu, cmpV b a = - cmpV a b
  | .mk k b i t l ks, w => by
    rw [cmpV_eq, cmpV_eq]
    exact anti_lex (cmpH_anti _ _) fun _ => cmpL_anti l w.items
theorem cmpL_anti : ∀ a b : List Vu, cmpL b a = - cmpL a b
  | [], [] => by simp only [cmpL]; rfl
  | [], _ :: _ => by simp only [cmpL]; rfl
  | _ :: _, [] => by simp only [cmpL]
  | x :: a, y :: b => by
    simp only [cmpL]
    exact anti_lex (cmpV_anti x y) fun _ => cmpL_anti a b
end
mutual
theorem cmpV_tr : ∀ a b d : Vu, Tr (cmpV a b) (cmpV b d) (cmpV a d)
  | .mk k b i t l ks, v, w => by
    rw [cmpV_eq, cmpV_eq, cmpV_eq]
    exact (cmpH_tr _ _ _).lex fun _ _ => cmpL_tr l v.items w.items
theorem cmpL_tr : ∀ a b d : List Vu, Tr (cmpL a b) (cmpL b d) (cmpL a d)
  | [], [], [] => by simp only [cmpL]; exact Tr.n
  | [], [], _ :: _ => by simp only [cmpL]; exact Tr.l2
  | [], _ :: _, [] => by simp only [cmpL]; exact Tr.r2 _ _
  | [], _ :: _, _ :: _ => by simp only [cmpL]; exact Tr.l _
  | _ :: _, [], d => by simp only [cmpL]; exact Tr.r _ _
  | _ :: _, _ :: _, [] => by simp only [cmpL]; exact Tr.r2 _ _
  | x :: a, y :: b, z :: d => by
    simp only [cmpL]
    exact (cmpV_tr x y z).lex fun _ _ => cmpL_tr a b d
end
theorem wk_of {α : Type} {c : α → α → Int} (ha : ∀ a b, c b a = - c a b) (ht : ∀ a b d, Tr (c a b) (c b d) (c a d)) : Wk (fun a b => decide (c a b < 0)) where
  asym := fun a b h => by
    have h1 := ha a b
    have h2 := of_decide_eq_true h
    exact decide_eq_false (by omega)
  ntr := fun a b d h1 h2 => by
    have h3 := of_decide_eq_false h1
    have h4 := of_decide_eq_false h2
    have h5 := ht d b a
    have h6 := ha a b
    have h7 := ha b d
    have h8 := ha a d
    unfold Tr at h5
    exact decide_eq_false (by omega)
end sb
end Go.Proofs.YthoemnhigboahaaGreatDoor
namespace Go.Proofs.YthoemnhigboahaaGreatDoor
open Go.RowKit
set_option linter.unusedVariables false
set_option linter.unusedSimpArgs false
namespace sb
theorem lex_bd {x y : Int} (h1 : -1 ≤ x ∧ x ≤ 1) (h2 : -1 ≤ y ∧ y ≤ 1) : -1 ≤ (if x ≠ 0 then x else y) ∧ (if x ≠ 0 then x else y) ≤ 1 := by split <;> assumption
theorem sgn_bd (a b : Int) : -1 ≤ sgn a b ∧ sgn a b ≤ 1 := by unfold sgn; repeat' split <;> omega
theorem cmpB_bd : ∀ a b : List UInt8, -1 ≤ Lib.compareBytes a b ∧ Lib.compareBytes a b ≤ 1
  | [], [] => (by omega : (-1 : Int) ≤ 0 ∧ (0 : Int) ≤ 1)
  | [], _ :: _ => (by omega : (-1 : Int) ≤ -1 ∧ (-1 : Int) ≤ 1)
  | _ :: _, [] => (by omega : (-1 : Int) ≤ 1 ∧ (1 : Int) ≤ 1)
  | x :: a, y :: b => by
    rw [cmpB_cons]
    exact lex_bd (sgn_bd _ _) (cmpB_bd a b)
theorem cmpKL_bd : ∀ a b : List ByteArray, -1 ≤ cmpKL a b ∧ cmpKL a b ≤ 1
  | [], [] => (by omega : (-1 : Int) ≤ 0 ∧ (0 : Int) ≤ 1)
  | [], _ :: _ => (by omega : (-1 : Int) ≤ -1 ∧ (-1 : Int) ≤ 1)
  | _ :: _, [] => (by omega : (-1 : Int) ≤ 1 ∧ (1 : Int) ≤ 1)
  | x :: a, y :: b => lex_bd (cmpB_bd _ _) (cmpKL_bd a b)
theorem cmpH_bd (a b : Vu) : -1 ≤ cmpH a b ∧ cmpH a b ≤ 1 := by
  unfold cmpH
  rw [cmpK_zero]
  exact lex_bd (sgn_bd _ _) (lex_bd (sgn_bd _ _) (lex_bd (sgn_bd _ _) (lex_bd (cmpB_bd _ _) (cmpKL_bd _ _))))
mutual
theorem cmpV_bd : ∀ a b : Vu, -1 ≤ cmpV a b ∧ cmpV a b ≤ 1
  | .mk k b i t l ks, w => by
    rw [cmpV_eq]
    exact lex_bd (cmpH_bd _ _) (cmpL_bd l w.items)
theorem cmpL_bd : ∀ a b : List Vu, -1 ≤ cmpL a b ∧ cmpL a b ≤ 1
  | [], [] => by simp only [cmpL]; omega
  | [], _ :: _ => by simp only [cmpL]; omega
  | _ :: _, [] => by simp only [cmpL]; omega
  | x :: a, y :: b => by
    simp only [cmpL]
    exact lex_bd (cmpV_bd x y) (cmpL_bd a b)
end
theorem Tr.swap {x y z : Int} (h : Tr x y z) : Tr y x z := ⟨fun a b => ⟨(h.1 b a).1, fun c => (h.1 b a).2 c.symm⟩, fun a b => h.2 b a⟩
end sb
end Go.Proofs.YthoemnhigboahaaGreatDoor
namespace Go.Proofs.YthoemnhigboahaaGreatDoor
open Go.RowKit
set_option linter.unusedVariables false
set_option linter.unusedSimpArgs false
namespace rk
open sb sq
def ltV (l : List Vu) (i j : Nat) : Bool := decide (cmpV (l.getD i .zero) (l.getD j .zero) < 0)
theorem wk_ltV (l : List Vu) : Wk (ltV l) := wk_of (c := fun i j => cmpV (l.getD i .zero) (l.getD j .zero)) (fun a b => cmpV_anti _ _) (fun a b d => cmpV_tr _ _ _)
noncomputable def ord (l : List Vu) : Nat → Nat := sA (ltV l) 0 l.length
theorem ord_lt {l : List Vu} {k : Nat} (h : k < l.length) : ord l k < l.length := (sA_in (wk_ltV l) (Nat.zero_le k) h).2
theorem ord_ex {l : List Vu} {i : Nat} (h : i < l.length) : ∃ k, k < l.length ∧ ord l k = i := by
  obtain ⟨k, _, h1, h2⟩ := (sA_spec (wk_ltV l) 0 l.length).2.symm.mem (Nat.zero_le i) h
  exact ⟨k, h1, h2.symm⟩
theorem ord_T {l : List Vu} {k m : Nat} (h : k < m) (hm : m < l.length) : T (ltV l) id (ord l k) (ord l m) := (sA_spec (wk_ltV l) 0 l.length).1 k m (Nat.zero_le k) h hm
theorem cmp_sym {x y : Vu} (h : cmpV x y = 0) : cmpV y x = 0 := by have := cmpV_anti x y; omega
theorem cmp_tr {x y z : Vu} (h1 : cmpV x y = 0) (h2 : cmpV y z = 0) : cmpV x z = 0 := (cmpV_tr x y z).2 h1 h2
theorem T_le {l : List Vu} {i j : Nat} (h : T (ltV l) id i j) : cmpV (l.getD i .zero) (l.getD j .zero) < 0 ∨ (cmpV (l.getD i .zero) (l.getD j .zero) = 0 ∧ i < j) := by
  have ha := cmpV_anti (l.getD i .zero) (l.getD j .zero)
  rcases h with h | ⟨h, h2⟩
  · exact .inl (of_decide_eq_true h)
  · have h : ¬ cmpV (l.getD j .zero) (l.getD i .zero) < 0 := of_decide_eq_false h
    by_cases h3 : cmpV (l.getD i .zero) (l.getD j .zero) < 0
    · exact .inl h3
    · exact .inr ⟨by omega, h2⟩
def begR (l : List Vu) (π : Nat → Nat) (k : Nat) : Bool := decide (k = 0) || decide (¬ cmpV (l.getD (π (k - 1)) .zero) (l.getD (π k) .zero) = 0)
def fstV (l : List Vu) (i : Nat) : Bool := (List.range i).all fun j => decide (¬ cmpV (l.getD j .zero) (l.getD i .zero) = 0)
theorem fstV_iff (l : List Vu) (i : Nat) : fstV l i = true ↔ ∀ j, j < i → ¬ cmpV (l.getD j .zero) (l.getD i .zero) = 0 := by
  unfold fstV
  rw [List.all_eq_true]
  exact ⟨fun h j hj => of_decide_eq_true (h j (List.mem_range.2 hj)), fun h j hj => decide_eq_true (h j (List.mem_range.1 hj))⟩
theorem beg_fst {l : List Vu} {k : Nat} (hk : k < l.length) : begR l (ord l) k = fstV l (ord l k) := by
  rw [Bool.eq_iff_iff, fstV_iff]
  unfold begR
  rw [Bool.or_eq_true, decide_eq_true_eq, decide_eq_true_eq]
  constructor
  · intro h j hj he
    obtain ⟨m, hm, rfl⟩ := ord_ex (l := l) (i := j) (by have := ord_lt hk; omega)
    rcases Nat.lt_trichotomy m k with q | q | q
    · rcases h with h | h
      · omega
      · refine h ?_
        have h2 := T_le (ord_T (l := l) (k := k - 1) (m := k) (by omega) hk)
        by_cases e : m = k - 1
        · rw [← e]; exact he
        · have h1 := T_le (ord_T (l := l) (k := m) (m := k - 1) (by omega) (by omega))
          have h3 := (cmpV_tr (l.getD (ord l m) .zero) (l.getD (ord l (k - 1)) .zero) (l.getD (ord l k) .zero)).1 (by omega) (by omega)
          omega
    · subst q; omega
    · have h1 := T_le (ord_T (l := l) q hm)
      have := cmpV_anti (l.getD (ord l k) .zero) (l.getD (ord l m) .zero)
      omega
  · intro h
    by_cases h0 : k = 0
    · exact .inl h0
    · refine .inr fun he => ?_
      rcases T_le (ord_T (l := l) (k := k - 1) (m := k) (by omega) hk) with h1 | ⟨_, h1⟩
      · omega
      · exact h _ h1 he
def inV (l : List Vu) (v : Vu) : Bool := l.any fun x => decide (cmpV x v = 0)
theorem inV_iff (l : List Vu) (v : Vu) : inV l v = true ↔ ∃ x ∈ l, cmpV x v = 0 := by
  unfold inV
  rw [List.any_eq_true]
  exact ⟨fun ⟨x, h, h2⟩ => ⟨x, h, of_decide_eq_true h2⟩, fun ⟨x, h, h2⟩ => ⟨x, h, decide_eq_true h2⟩⟩
theorem inV_search {l : List Vu} {v : Vu} {k : Nat} (hk : k ≤ l.length) (h1 : ∀ m, m < k → cmpV (l.getD (ord l m) .zero) v < 0) (h2 : k < l.length → 0 ≤ cmpV (l.getD (ord l k) .zero) v) :
    inV l v = (decide (k < l.length) && decide (cmpV (l.getD (ord l k) .zero) v = 0)) := by
  rw [Bool.eq_iff_iff, inV_iff, Bool.and_eq_true, decide_eq_true_eq, decide_eq_true_eq]
  constructor
  · rintro ⟨x, hx, he⟩
    obtain ⟨i, hi, rfl⟩ : ∃ i, i < l.length ∧ l.getD i .zero = x := by
      obtain ⟨i, hi, e⟩ := List.getElem_of_mem hx
      exact ⟨i, hi, by rw [List.getD, List.getElem?_eq_getElem hi, ← e]; rfl⟩
    obtain ⟨m, hm, rfl⟩ := ord_ex hi
    have hkm : k ≤ m := Nat.le_of_not_lt fun h => by have := h1 m h; omega
    refine ⟨by omega, ?_⟩
    by_cases e : k = m
    · rw [e]; exact he
    · have h3 := T_le (ord_T (l := l) (k := k) (m := m) (by omega) hm)
      have h4 := (cmpV_tr (l.getD (ord l k) .zero) (l.getD (ord l m) .zero) v).1 (by omega) (by omega)
      have := h2 (by omega)
      omega
  · rintro ⟨h3, h4⟩
    exact ⟨_, getD_mem l .zero _ (ord_lt h3), h4⟩
theorem ord_mono {l : List Vu} {v : Vu} {k m : Nat} (h : k ≤ m) (hm : m < l.length) (h1 : 0 ≤ cmpV (l.getD (ord l k) .zero) v) : 0 ≤ cmpV (l.getD (ord l m) .zero) v := by
  by_cases e : k = m
  · rw [← e]; exact h1
  · have h3 := T_le (ord_T (l := l) (k := k) (m := m) (by omega) hm)
    refine Int.le_of_not_gt fun h4 => ?_
    have h5 := (cmpV_tr (l.getD (ord l k) .zero) (l.getD (ord l m) .zero) v).1 (by omega) (by omega)
    have := h5.2 (.inr h4)
    omega
def pick (p : Nat → Bool) (l : List Vu) : Nat → List Vu
  | 0 => []
  | n + 1 => if p n = true then pick p l n ++ [l.getD n .zero] else pick p l n
theorem pick_mem {p : Nat → Bool} {l : List Vu} {n : Nat} {x : Vu} : x ∈ pick p l n ↔ ∃ i, i < n ∧ p i = true ∧ l.getD i .zero = x := by
  induction n with
  | zero => exact ⟨fun h => (by cases h), fun ⟨i, h, _⟩ => absurd h (Nat.not_lt_zero i)⟩
  | succ n ih =>
    unfold pick
    by_cases hp : p n = true
    · rw [if_pos hp, List.mem_append, ih, List.mem_singleton]
      constructor
      · rintro (⟨i, h1, h2⟩ | rfl)
        · exact ⟨i, by omega, h2⟩
        · exact ⟨n, by omega, hp, rfl⟩
      · rintro ⟨i, h1, h2, h3⟩
        by_cases e : i = n
        · subst e; exact .inr h3.symm
        · exact .inl ⟨i, by omega, h2, h3⟩
    · rw [if_neg hp, ih]
      constructor
      · rintro ⟨i, h1, h2⟩
        exact ⟨i, by omega, h2⟩
      · rintro ⟨i, h1, h2, h3⟩
        by_cases e : i = n
        · subst e; exact absurd h2 hp
        · exact ⟨i, by omega, h2, h3⟩
theorem pick_len (p : Nat → Bool) (l : List Vu) : ∀ n, (pick p l n).length ≤ n
  | 0 => Nat.le_refl _
  | n + 1 => by
    have := pick_len p l n
    unfold pick
    split
    · rw [List.length_append, List.length_singleton]; omega
    · omega
theorem pick_in {q : Vu → Bool} (hq : ∀ x y, cmpV x y = 0 → q x = q y) {l : List Vu} {n : Nat} (h : q (l.getD n .zero) = true) :
    inV (pick (fun i => fstV l i && q (l.getD i .zero)) l n) (l.getD n .zero) = !fstV l n := by
  rw [Bool.eq_iff_iff, inV_iff, Bool.not_eq_true', ← Bool.not_eq_true, fstV_iff]
  constructor
  · rintro ⟨x, hx, he⟩ hn
    obtain ⟨i, hi, _, rfl⟩ := pick_mem.1 hx
    exact hn i hi he
  · intro hn
    have hex : ∃ j, j < n ∧ cmpV (l.getD j .zero) (l.getD n .zero) = 0 := Classical.byContradiction fun h' => hn fun j hj he => h' ⟨j, hj, he⟩
    obtain ⟨j, hj, he⟩ := hex
    clear hn
    induction j using Nat.strongRecOn with
    | ind j ih =>
      by_cases hf : fstV l j = true
      · exact ⟨_, pick_mem.2 ⟨j, hj, by rw [Bool.and_eq_true]; exact ⟨hf, (hq _ _ he).trans h⟩, rfl⟩, he⟩
      · rw [fstV_iff] at hf
        have hex : ∃ k, k < j ∧ cmpV (l.getD k .zero) (l.getD j .zero) = 0 := Classical.byContradiction fun h' => hf fun k hk he => h' ⟨k, hk, he⟩
        obtain ⟨k, hk, hke⟩ := hex
        exact ih k hk (by omega) (cmp_tr hke he)
theorem pick_step {q : Vu → Bool} (hq : ∀ x y, cmpV x y = 0 → q x = q y) (l : List Vu) (n : Nat) :
    pick (fun i => fstV l i && q (l.getD i .zero)) l (n + 1) = if (q (l.getD n .zero) && !inV (pick (fun i => fstV l i && q (l.getD i .zero)) l n) (l.getD n .zero)) = true then pick (fun i => fstV l i && q (l.getD i .zero)) l n ++ [l.getD n .zero] else pick (fun i => fstV l i && q (l.getD i .zero)) l n := by
  rw [pick]
  cases h : q (l.getD n .zero)
  · rw [Bool.and_false, Bool.false_and]
  · rw [pick_in hq h, Bool.not_not, Bool.and_true, Bool.true_and]
theorem inV_resp (l : List Vu) : ∀ x y, cmpV x y = 0 → inV l x = inV l y := fun x y h => by
  rw [Bool.eq_iff_iff, inV_iff, inV_iff]
  exact ⟨fun ⟨z, hz, he⟩ => ⟨z, hz, cmp_tr he h⟩, fun ⟨z, hz, he⟩ => ⟨z, hz, cmp_tr he (cmp_sym h)⟩⟩
end rk
end Go.Proofs.YthoemnhigboahaaGreatDoor
