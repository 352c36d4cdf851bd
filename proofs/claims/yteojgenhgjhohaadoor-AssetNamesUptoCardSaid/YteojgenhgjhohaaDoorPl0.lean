/-
  Images in text: rows between line feeds; plain law. Names with digits of a digest, plain: the program's look from the right, the reference's pieces between points.
-/
import Derived.Test.YteojgenhgjhohaaDoorU1
namespace Go.Proofs.YteojgenhgjhohaaDoor
open Go.RowKit
set_option linter.unusedVariables false
set_option linter.unusedSimpArgs false
def lns (c : UInt8) : List UInt8 → List (List UInt8)
  | [] => [[]]
  | b :: t => if b = c then [] :: lns c t else match lns c t with
    | p :: q => (b :: p) :: q
    | [] => [[b]]
theorem lns_none {c : UInt8} : ∀ L : List UInt8, (∀ b ∈ L, b ≠ c) → lns c L = [L]
  | [], _ => rfl
  | b :: t, h => by
    rw [lns, if_neg (h b (by simp)), lns_none t (fun x hx => h x (by simp [hx]))]
theorem lns_app {c : UInt8} : ∀ (A B : List UInt8), (∀ b ∈ A, b ≠ c) → lns c (A ++ c :: B) = A :: lns c B
  | [], B, _ => by rw [List.nil_append, lns, if_pos rfl]
  | b :: t, B, h => by
    rw [List.cons_append, lns, if_neg (h b (by simp)), lns_app t B (fun x hx => h x (by simp [hx]))]
theorem lns_join (c : UInt8) : ∀ L : List UInt8, ∃ i l, lns c L = i ++ [l] ∧ L = i.flatMap (· ++ [c]) ++ l
  | [] => ⟨[], [], rfl, rfl⟩
  | b :: t => by
    obtain ⟨i, l, h1, h2⟩ := lns_join c t
    rw [lns, h1]
    by_cases hb : b = c
    · rw [if_pos hb]
      exact ⟨[] :: i, l, rfl, by simp [hb, h2]⟩
    · rw [if_neg hb]
      match i, h2 with
      | [], h2 => exact ⟨[], b :: l, rfl, by simp [h2]⟩
      | x :: r, h2 => exact ⟨(b :: x) :: r, l, rfl, by simp [h2]⟩
theorem idx_split {c : UInt8} : ∀ (L : List UInt8) (i : Nat), Lib.indexByte L c = i → ∃ A B, L = A ++ c :: B ∧ A.length = i ∧ ∀ b ∈ A, b ≠ c := fun L i h => by
  obtain ⟨h1, h2⟩ := Lib.indexByte_some h
  have hi : i < L.length := by
    rcases Nat.lt_or_ge i L.length with h | h
    · exact h
    · rw [List.getElem?_eq_none h] at h1; cases h1
  rw [List.getElem?_eq_getElem hi] at h1
  injection h1 with h1
  refine ⟨L.take i, L.drop (i + 1), ?_, by simp; omega, fun b hb => ?_⟩
  · rw [← h1]; simp
  · obtain ⟨j, hj, rfl⟩ := List.getElem_of_mem hb
    have hj' : j < i := by simp at hj; omega
    intro e
    refine h2 j hj' ?_
    rw [List.getElem?_eq_getElem (by omega), ← e]
    simp
def toB (l : List UInt8) : ByteArray := ⟨l.toArray⟩
theorem toB_L (s : ByteArray) : toB s.data.toList = s := by unfold toB; simp
theorem pcs_lns (c : UInt8) : ∀ (n : Nat) (s : ByteArray), s.size < n → pcs s ⟨#[c]⟩ = (lns c s.data.toList).map toB
  | 0, s, h => by omega
  | n + 1, s, h => by
    have e0 : Lib.indexB s ⟨#[c]⟩ = Lib.indexByte s.data.toList c := Lib.index_one _ _
    rcases Lib.indexB_cases s ⟨#[c]⟩ with h1 | ⟨i, h1, h2⟩
    · unfold pcs
      rw [Lib.countB_miss _ _ h1, Lib.splitB_zero]
      rw [e0] at h1
      rw [lns_none _ (fun b hb e => ?_)]
      · rw [List.map_cons, toB_L]; rfl
      · obtain ⟨k, hk, rfl⟩ := List.getElem_of_mem hb
        exact Lib.indexByte_none h1 k (by rw [List.getElem?_eq_getElem hk, e])
    · have h3 : pcs s ⟨#[c]⟩ = s.extract 0 i :: pcs (s.extract (i + 1) s.size) ⟨#[c]⟩ := by
        unfold pcs
        rw [Lib.countB_hit _ _ _ (show 1 ≤ (⟨#[c]⟩ : ByteArray).size from Nat.le_refl 1) h1, Nat.add_comm 1, Lib.splitB_hit _ _ _ _ _ h1, Nat.add_zero]
        rfl
      have h2 : i + 1 ≤ s.size := h2
      rw [h3, pcs_lns c n _ (by rw [ByteArray.size_extract]; omega)]
      rw [e0] at h1
      obtain ⟨A, B, hL, hA, hno⟩ := idx_split _ _ h1
      have e1 : (s.extract 0 i) = toB A := by
        apply ByteArray.ext
        apply Array.ext'
        simp [toB, ByteArray.data_extract, hL, ← hA]
      have e2 : (s.extract (i + 1) s.size).data.toList = B := by
        have : s.size = A.length + (B.length + 1) := by
          have : s.data.toList.length = _ := congrArg List.length hL
          simpa using this
        simp [ByteArray.data_extract, hL, ← hA, this]
        rw [List.take_of_length_le (by omega)]
      rw [e1, e2]
      conv => rhs; rw [hL]
      rw [lns_app A B hno]
      rfl
end Go.Proofs.YteojgenhgjhohaaDoor
namespace Go.Proofs.YteojgenhgjhohaaDoor
set_option linter.unusedVariables false
set_option linter.unusedSimpArgs false
namespace pl
def hexC (b : UInt8) : Bool := (decide (48 ≤ b.toNat) && decide (b.toNat ≤ 57)) || (decide (97 ≤ b.toNat) && decide (b.toNat ≤ 102))
def hexL (l : List UInt8) : Bool := decide (l.length = 12) && l.all hexC
theorem hex_no46 {l : List UInt8} (h : l.all hexC = true) : ∀ b ∈ l, b ≠ 46 := fun b hb e => by
  have := List.all_eq_true.1 h b hb
  subst e
  revert this
  decide
theorem cut_uniq {c : UInt8} : ∀ {A B X D : List UInt8}, A ++ c :: B = X ++ c :: D → (∀ b ∈ B, b ≠ c) → (∀ b ∈ D, b ≠ c) → A = X ∧ B = D
  | [], B, [], D, h, _, _ => by
    simp at h
    exact ⟨rfl, h⟩
  | [], B, x :: X, D, h, hB, _ => by
    simp at h
    exact absurd rfl (hB c (by rw [h.2]; simp))
  | a :: A, B, [], D, h, _, hD => by
    simp at h
    exact absurd rfl (hD c (by rw [← h.2]; simp))
  | a :: A, B, x :: X, D, h, hB, hD => by
    simp at h
    obtain ⟨h1, h2⟩ := cut_uniq h.2 hB hD
    exact ⟨by rw [h.1, h1], h2⟩
theorem cut_ex {c : UInt8} : ∀ (L : List UInt8), (∀ b ∈ L, b ≠ c) ∨ ∃ A B, L = A ++ c :: B ∧ ∀ b ∈ B, b ≠ c
  | [] => .inl fun b hb => by cases hb
  | x :: L => by
    rcases cut_ex (c := c) L with h | ⟨A, B, rfl, h⟩
    · by_cases e : x = c
      · exact .inr ⟨[], L, by rw [e]; rfl, h⟩
      · refine .inl fun b hb => ?_
        rcases List.mem_cons.1 hb with rfl | hb
        · exact e
        · exact h b hb
    · exact .inr ⟨x :: A, B, rfl, h⟩
theorem lns_ne (c : UInt8) (L : List UInt8) : lns c L ≠ [] := by
  obtain ⟨i, l, h, _⟩ := lns_join c L
  rw [h]
  simp
theorem lns_snoc {c : UInt8} : ∀ (A B : List UInt8), (∀ b ∈ B, b ≠ c) → lns c (A ++ c :: B) = lns c A ++ [B]
  | [], B, h => by
    have e : lns c (c :: B) = [] :: lns c B := by rw [lns, if_pos rfl]
    rw [List.nil_append, e, lns_none B h]
    rfl
  | a :: A, B, h => by
    rw [List.cons_append, lns, lns, lns_snoc A B h]
    by_cases e : a = c
    · rw [if_pos e, if_pos e]; rfl
    · rw [if_neg e, if_neg e]
      have hne := lns_ne c A
      cases hl : lns c A with
      | nil => exact absurd hl hne
      | cons p q => rfl
def jnP : List (List UInt8) → List UInt8
  | [] => []
  | [x] => x
  | x :: y :: r => x ++ 46 :: jnP (y :: r)
theorem jnP_snoc : ∀ (l : List (List UInt8)) (x : List UInt8), l ≠ [] → jnP (l ++ [x]) = jnP l ++ 46 :: x
  | [], x, h => absurd rfl h
  | [y], x, _ => rfl
  | y :: z :: r, x, _ => by
    have := jnP_snoc (z :: r) x (by simp)
    show y ++ 46 :: jnP (z :: r ++ [x]) = _
    rw [this]
    simp [jnP]
theorem jnP_lns : ∀ (n : Nat) (L : List UInt8), L.length < n → jnP (lns 46 L) = L
  | 0, L, h => by omega
  | n + 1, L, h => by
    rcases cut_ex (c := 46) L with h1 | ⟨A, B, rfl, h1⟩
    · rw [lns_none L h1]; rfl
    · rw [lns_snoc A B h1, jnP_snoc _ _ (lns_ne _ _), jnP_lns n A (by simp at h; omega)]
def refP (L : List UInt8) : Option (List UInt8 × List UInt8) :=
  if 3 ≤ (lns 46 L).length ∧ hexL ((lns 46 L).getD ((lns 46 L).length - 2) []) = true ∧ jnP ((lns 46 L).take ((lns 46 L).length - 2)) ≠ [] then
    some (jnP ((lns 46 L).take ((lns 46 L).length - 2) ++ [(lns 46 L).getD ((lns 46 L).length - 1) []]), (lns 46 L).getD ((lns 46 L).length - 2) [])
  else if 2 ≤ (lns 46 L).length ∧ hexL ((lns 46 L).getD ((lns 46 L).length - 1) []) = true ∧ jnP ((lns 46 L).take ((lns 46 L).length - 1)) ≠ [] then
    some (jnP ((lns 46 L).take ((lns 46 L).length - 1)), (lns 46 L).getD ((lns 46 L).length - 1) [])
  else none
def digP (L : List UInt8) (k : Int) : Prop := 2 ≤ k ∧ k + 12 ≤ L.length ∧ L.getD (k.toNat - 1) 0 = 46 ∧ (∀ i, i < 12 → hexC (L.getD (k.toNat + i) 0) = true)
theorem digP_iff (L : List UInt8) (k : Int) : digP L k ↔ ∃ X D Y, L = X ++ 46 :: (D ++ Y) ∧ ((X.length : Nat) : Int) + 1 = k ∧ X ≠ [] ∧ D.length = 12 ∧ D.all hexC = true := by
  constructor
  · rintro ⟨h1, h2, h3, h4⟩
    obtain ⟨m, rfl⟩ : ∃ m : Nat, k = m := ⟨k.toNat, by omega⟩
    rw [Int.toNat_natCast] at h3 h4
    refine ⟨L.take (m - 1), (L.drop m).take 12, L.drop (m + 12), ?_, by rw [List.length_take]; omega, fun e => (by
      have h5 := congrArg List.length e
      rw [List.length_take, List.length_nil] at h5
      omega), by rw [List.length_take, List.length_drop]; omega, ?_⟩
    · have e1 : (L.drop m).take 12 ++ L.drop (m + 12) = L.drop m := by
        have e0 : L.drop (m + 12) = (L.drop m).drop 12 := by rw [List.drop_drop]
        rw [e0]
        exact List.take_append_drop 12 _
      have e2 : L.drop (m - 1) = 46 :: L.drop m := by
        rw [List.drop_eq_getElem_cons (show m - 1 < L.length by omega), show m - 1 + 1 = m by omega]
        rw [List.getD_eq_getElem?_getD, List.getElem?_eq_getElem (show m - 1 < L.length by omega)] at h3
        exact congrArg (· :: L.drop m) h3
      rw [e1, ← e2]
      exact (List.take_append_drop _ _).symm
    · rw [List.all_eq_true]
      intro b hb
      obtain ⟨i, hi, rfl⟩ := List.getElem_of_mem hb
      rw [List.length_take, List.length_drop] at hi
      have := h4 i (by omega)
      rw [List.getD_eq_getElem?_getD, List.getElem?_eq_getElem (by omega)] at this
      simpa using this
  · rintro ⟨X, D, Y, rfl, rfl, h1, h2, h3⟩
    have hX : 0 < X.length := List.length_pos_iff.2 h1
    have e : ((X.length : Int) + 1).toNat = X.length + 1 := by omega
    refine ⟨by omega, by simp; omega, ?_, fun i hi => ?_⟩
    · rw [e, Nat.add_sub_cancel, List.getD_eq_getElem?_getD, List.getElem?_append_right (Nat.le_refl _), Nat.sub_self]
      rfl
    · rw [e, List.getD_eq_getElem?_getD, List.getElem?_append_right (by omega), show X.length + 1 + i - X.length = i + 1 by omega, List.getElem?_cons_succ, List.getElem?_append_left (by omega), List.getElem?_eq_getElem (by omega)]
      exact List.all_eq_true.1 h3 _ (List.getElem_mem _)
theorem dig_at (A T : List UInt8) : digP (A ++ T) ((A.length : Int) - 12) ↔ ∃ X D, A = X ++ 46 :: D ∧ X ≠ [] ∧ hexL D = true := by
  rw [digP_iff]
  constructor
  · rintro ⟨X, D, Y, h1, h2, h3, h4, h5⟩
    refine ⟨X, D, ?_, h3, ?_⟩
    · have e := congrArg (List.take A.length) h1
      rw [List.take_append_of_le_length (Nat.le_refl _), List.take_length, show A.length = X.length + (12 + 1) by omega, show X ++ 46 :: (D ++ Y) = X ++ ((46 :: D) ++ Y) from rfl, ← List.append_assoc, List.take_append_of_le_length (by simp; omega), List.take_of_length_le (by simp; omega)] at e
      exact e
    · unfold hexL
      rw [Bool.and_eq_true]
      exact ⟨decide_eq_true h4, h5⟩
  · rintro ⟨X, D, rfl, h3, h4⟩
    unfold hexL at h4
    rw [Bool.and_eq_true, decide_eq_true_eq] at h4
    exact ⟨X, D, T, by simp, by simp; omega, h3, h4.1, h4.2⟩
def lastL (c : UInt8) (L : List UInt8) : Nat → Int
  | 0 => -1
  | k + 1 => if L.getD k 0 = c then (k : Int) else lastL c L k
theorem lastL_none {c : UInt8} {L : List UInt8} (h : ∀ b ∈ L, b ≠ c) : ∀ k, k ≤ L.length → lastL c L k = -1
  | 0, _ => rfl
  | k + 1, hk => by
    rw [lastL, if_neg (fun e => ?_), lastL_none h k (by omega)]
    rw [List.getD_eq_getElem?_getD, List.getElem?_eq_getElem (by omega)] at e
    exact h _ (List.getElem_mem (by omega)) e
theorem lastL_at {c : UInt8} {A B : List UInt8} (h : ∀ b ∈ B, b ≠ c) : ∀ n, n ≤ B.length → lastL c (A ++ c :: B) (A.length + 1 + n) = A.length
  | 0, _ => by
    rw [Nat.add_zero, lastL, if_pos (by rw [List.getD_eq_getElem?_getD, List.getElem?_append_right (Nat.le_refl _), Nat.sub_self]; rfl)]
  | n + 1, hn => by
    rw [show A.length + 1 + (n + 1) = (A.length + 1 + n) + 1 by omega, lastL, if_neg (fun e => ?_), lastL_at h n (by omega)]
    rw [List.getD_eq_getElem?_getD, List.getElem?_append_right (by omega), show A.length + 1 + n - A.length = n + 1 by omega, List.getElem?_cons_succ, List.getElem?_eq_getElem (by omega)] at e
    exact h _ (List.getElem_mem (by omega)) e
open Classical in
noncomputable def progP (L : List UInt8) : Option (List UInt8 × List UInt8) :=
  if 0 ≤ lastL 46 L L.length ∧ digP L (lastL 46 L L.length - 12) then some (L.take (lastL 46 L L.length - 13).toNat ++ L.drop (lastL 46 L L.length).toNat, (L.drop (lastL 46 L L.length - 12).toNat).take 12)
  else if digP L ((L.length : Int) - 12) then some (L.take (L.length - 13), L.drop (L.length - 12)) else none
theorem hex_len {D : List UInt8} (h : hexL D = true) : D.length = 12 ∧ ∀ b ∈ D, b ≠ 46 := by
  unfold hexL at h
  rw [Bool.and_eq_true, decide_eq_true_eq] at h
  exact ⟨h.1, hex_no46 h.2⟩
theorem second_part (A B : List UInt8) (hB : ∀ b ∈ B, b ≠ 46) : (digP (A ++ 46 :: B) (((A ++ 46 :: B).length : Int) - 12) ↔ hexL B = true ∧ A ≠ []) := by
  have h := dig_at (A ++ 46 :: B) []
  rw [List.append_nil] at h
  rw [h]
  constructor
  · rintro ⟨X, D, e, h1, h2⟩
    obtain ⟨rfl, rfl⟩ := cut_uniq e hB (hex_len h2).2
    exact ⟨h2, h1⟩
  · rintro ⟨h1, h2⟩
    exact ⟨A, B, rfl, h2, h1⟩
theorem same (L : List UInt8) : progP L = refP L := by
  rcases cut_ex (c := 46) L with hL | ⟨A, B, rfl, hB⟩
  · have h1 : progP L = none := by
      unfold progP
      rw [if_neg (fun h => by rw [lastL_none hL _ (Nat.le_refl _)] at h; exact absurd h.1 (by decide)), if_neg (fun h => ?_)]
      have h' := (dig_at L []).1 (by rw [List.append_nil]; exact h)
      obtain ⟨X, D, e, _, _⟩ := h'
      exact hL 46 (by rw [e]; simp) rfl
    rw [h1]
    unfold refP
    rw [lns_none L hL, if_neg (fun h => absurd h.1 (by simp)), if_neg (fun h => absurd h.1 (by simp))]
  · have hp : lastL 46 (A ++ 46 :: B) (A ++ 46 :: B).length = A.length := by
      have := lastL_at (A := A) hB B.length (Nat.le_refl _)
      rw [show (A ++ 46 :: B).length = A.length + 1 + B.length by simp; omega]
      exact this
    have hs := second_part A B hB
    have hl := lns_snoc A B hB
    have hn : (lns 46 (A ++ 46 :: B)).length = (lns 46 A).length + 1 := by rw [hl, List.length_append]; rfl
    have hlast : (lns 46 (A ++ 46 :: B)).getD ((lns 46 (A ++ 46 :: B)).length - 1) [] = B := by
      rw [hn, Nat.add_sub_cancel, hl, List.getD_eq_getElem?_getD, List.getElem?_append_right (Nat.le_refl _), Nat.sub_self]
      rfl
    have htk : (lns 46 (A ++ 46 :: B)).take ((lns 46 (A ++ 46 :: B)).length - 1) = lns 46 A := by
      rw [hn, Nat.add_sub_cancel, hl, List.take_append_of_le_length (Nat.le_refl _), List.take_length]
    have hA : jnP (lns 46 A) = A := jnP_lns _ A (Nat.lt_succ_self _)
    have h1 : 1 ≤ (lns 46 A).length := List.length_pos_iff.2 (lns_ne _ _)
    have sec : (open Classical in if digP (A ++ 46 :: B) (((A ++ 46 :: B).length : Int) - 12) then some ((A ++ 46 :: B).take ((A ++ 46 :: B).length - 13), (A ++ 46 :: B).drop ((A ++ 46 :: B).length - 12)) else none) =
        (if 2 ≤ (lns 46 (A ++ 46 :: B)).length ∧ hexL B = true ∧ A ≠ [] then some (A, B) else none) := by
      by_cases h : hexL B = true ∧ A ≠ []
      · have hb := (hex_len h.1).1
        have hlen : (A ++ 46 :: B).length = A.length + 13 := by rw [List.length_append, List.length_cons, hb]
        rw [if_pos (hs.2 h), if_pos ⟨by omega, h⟩, hlen, Nat.add_sub_cancel, show A.length + 13 - 12 = A.length + 1 by omega, List.take_append_of_le_length (Nat.le_refl _), List.take_length, ← List.drop_drop, List.drop_append_of_le_length (Nat.le_refl _), List.drop_length]
        rfl
      · rw [if_neg (fun g => h (hs.1 g)), if_neg (fun g => h g.2)]
    unfold progP refP
    rw [hlast, htk, hA, hp]
    have hf := dig_at A (46 :: B)
    rcases cut_ex (c := 46) A with hA0 | ⟨A', C, e, hC⟩
    · rw [if_neg (fun h => by
        obtain ⟨X, D, e, _, _⟩ := hf.1 h.2
        exact hA0 46 (by rw [e]; simp) rfl)]
      conv => rhs; rw [if_neg (fun h => by
        have := h.1
        rw [hn, lns_none A hA0] at this
        simp at this)]
      exact sec
    · have hlA := lns_snoc A' C hC
      rw [← e] at hlA
      have h2 : 1 ≤ (lns 46 A').length := List.length_pos_iff.2 (lns_ne _ _)
      have hnA : (lns 46 A).length = (lns 46 A').length + 1 := by rw [hlA, List.length_append]; rfl
      have hC2 : (lns 46 (A ++ 46 :: B)).getD ((lns 46 (A ++ 46 :: B)).length - 2) [] = C := by
        rw [hn, hnA, hl, hlA, show (lns 46 A').length + 1 + 1 - 2 = (lns 46 A').length by omega, List.getD_eq_getElem?_getD, List.append_assoc, List.getElem?_append_right (Nat.le_refl _), Nat.sub_self]
        rfl
      have htk2 : (lns 46 (A ++ 46 :: B)).take ((lns 46 (A ++ 46 :: B)).length - 2) = lns 46 A' := by
        rw [hn, hnA, hl, hlA, show (lns 46 A').length + 1 + 1 - 2 = (lns 46 A').length by omega, List.append_assoc, List.take_append_of_le_length (Nat.le_refl _), List.take_length]
      have hA' : jnP (lns 46 A') = A' := jnP_lns _ A' (Nat.lt_succ_self _)
      rw [hC2, htk2, hA', jnP_snoc _ _ (lns_ne _ _), hA']
      by_cases h : hexL C = true ∧ A' ≠ []
      · have hc := (hex_len h.1).1
        have hlen : A.length = A'.length + 13 := by rw [e, List.length_append, List.length_cons, hc]
        rw [if_pos ⟨by omega, hf.2 ⟨A', C, e, h.2, h.1⟩⟩, if_pos ⟨by omega, h⟩, show ((A.length : Int) - 13).toNat = A'.length by omega, Int.toNat_natCast, show ((A.length : Int) - 12).toNat = A'.length + 1 by omega]
        have d1 : (A ++ 46 :: B).take A'.length = A' := by rw [e, List.append_assoc, List.take_append_of_le_length (Nat.le_refl _), List.take_length]
        have d2 : (A ++ 46 :: B).drop A.length = 46 :: B := by rw [List.drop_append_of_le_length (Nat.le_refl _), List.drop_length]; rfl
        have d3 : ((A ++ 46 :: B).drop (A'.length + 1)).take 12 = C := by
          rw [e, List.append_assoc, ← List.drop_drop, List.drop_append_of_le_length (Nat.le_refl _), List.drop_length, List.nil_append, List.cons_append, List.drop_succ_cons, List.drop_zero, ← hc, List.take_append_of_le_length (Nat.le_refl _), List.take_length]
        rw [d1, d2, d3]
      · rw [if_neg (fun g => h (by
          obtain ⟨X, D, e2, g1, g2⟩ := hf.1 g.2
          obtain ⟨rfl, rfl⟩ := cut_uniq (e.symm.trans e2) hC (hex_len g2).2
          exact ⟨g2, g1⟩))]
        conv => rhs; rw [if_neg (fun g => h g.2)]
        exact sec
end pl
end Go.Proofs.YteojgenhgjhohaaDoor
