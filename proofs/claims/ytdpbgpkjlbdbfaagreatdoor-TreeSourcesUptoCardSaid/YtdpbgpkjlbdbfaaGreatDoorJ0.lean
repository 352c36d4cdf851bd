/-
  Images in text: rows between line feeds; plain law.
-/
import Derived.Test.YtdpbgpkjlbdbfaaGreatDoorS2
namespace Go.Proofs.YtdpbgpkjlbdbfaaGreatDoor
open Go.RowKit
set_option linter.unusedVariables false
set_option linter.unusedSimpArgs false
/-- The pieces between bytes c. -/
def lns (c : UInt8) : List UInt8 → List (List UInt8)
  | [] => [[]]
  | b :: t => if b = c then [] :: lns c t else match lns c t with
    | p :: q => (b :: p) :: q
    | [] => [[b]]
theorem lns_none {c : UInt8} : ∀ L : List UInt8, (∀ b ∈ L, b ≠ c) → lns c L = [L]
  | [], _ => rfl
  | b :: t, h => by
    rw [lns, if_neg (h b (by simp)), lns_none t (fun x hx => h x (by simp [hx]))]
theorem lns_app {c : UInt8} : ∀ (A B : List UInt8), (∀ b ∈ A, b ≠ c) → lns c (A ++ c :: B) = A :: lns c B
  | [], B, _ => by rw [List.nil_append, lns, if_pos rfl]
  | b :: t, B, h => by
    rw [List.cons_append, lns, if_neg (h b (by simp)), lns_app t B (fun x hx => h x (by simp [hx]))]
/-- The last piece and those ahead of it. -/
theorem lns_join (c : UInt8) : ∀ L : List UInt8, ∃ i l, lns c L = i ++ [l] ∧ L = i.flatMap (· ++ [c]) ++ l
  | [] => ⟨[], [], rfl, rfl⟩
  | b :: t => by
    obtain ⟨i, l, h1, h2⟩ := lns_join c t
    rw [lns, h1]
    by_cases hb : b = c
    · rw [if_pos hb]
      exact ⟨[] :: i, l, rfl, by simp [hb, h2]⟩
    · rw [if_neg hb]
      match i, h2 with
      | [], h2 => exact ⟨[], b :: l, rfl, by simp [h2]⟩
      | x :: r, h2 => exact ⟨(b :: x) :: r, l, rfl, by simp [h2]⟩
theorem idx_split {c : UInt8} : ∀ (L : List UInt8) (i : Nat), Lib.indexByte L c = i → ∃ A B, L = A ++ c :: B ∧ A.length = i ∧ ∀ b ∈ A, b ≠ c := fun L i h => by
  obtain ⟨h1, h2⟩ := Lib.indexByte_some h
  have hi : i < L.length := by
    rcases Nat.lt_or_ge i L.length with h | h
    · exact h
    · rw [List.getElem?_eq_none h] at h1; cases h1
  rw [List.getElem?_eq_getElem hi] at h1
  injection h1 with h1
  refine ⟨L.take i, L.drop (i + 1), ?_, by simp; omega, fun b hb => ?_⟩
  · rw [← h1]; simp
  · obtain ⟨j, hj, rfl⟩ := List.getElem_of_mem hb
    have hj' : j < i := by simp at hj; omega
    intro e
    refine h2 j hj' ?_
    rw [List.getElem?_eq_getElem (by omega), ← e]
    simp
def toB (l : List UInt8) : ByteArray := ⟨l.toArray⟩
theorem toB_L (s : ByteArray) : toB s.data.toList = s := by unfold toB; simp
theorem pcs_lns (c : UInt8) : ∀ (n : Nat) (s : ByteArray), s.size < n → pcs s ⟨#[c]⟩ = (lns c s.data.toList).map toB
  | 0, s, h => by omega
  | n + 1, s, h => by
    have e0 : Lib.indexB s ⟨#[c]⟩ = Lib.indexByte s.data.toList c := Lib.index_one _ _
    rcases Lib.indexB_cases s ⟨#[c]⟩ with h1 | ⟨i, h1, h2⟩
    · unfold pcs
      rw [Lib.countB_miss _ _ h1, Lib.splitB_zero]
      rw [e0] at h1
      rw [lns_none _ (fun b hb e => ?_)]
      · rw [List.map_cons, toB_L]; rfl
      · obtain ⟨k, hk, rfl⟩ := List.getElem_of_mem hb
        exact Lib.indexByte_none h1 k (by rw [List.getElem?_eq_getElem hk, e])
    · have h3 : pcs s ⟨#[c]⟩ = s.extract 0 i :: pcs (s.extract (i + 1) s.size) ⟨#[c]⟩ := by
        unfold pcs
        rw [Lib.countB_hit _ _ _ (show 1 ≤ (⟨#[c]⟩ : ByteArray).size from Nat.le_refl 1) h1, Nat.add_comm 1, Lib.splitB_hit _ _ _ _ _ h1, Nat.add_zero]
        rfl
      have h2 : i + 1 ≤ s.size := h2
      rw [h3, pcs_lns c n _ (by rw [ByteArray.size_extract]; omega)]
      rw [e0] at h1
      obtain ⟨A, B, hL, hA, hno⟩ := idx_split _ _ h1
      have e1 : (s.extract 0 i) = toB A := by
        apply ByteArray.ext
        apply Array.ext'
        simp [toB, ByteArray.data_extract, hL, ← hA]
      have e2 : (s.extract (i + 1) s.size).data.toList = B := by
        have : s.size = A.length + (B.length + 1) := by
          have : s.data.toList.length = _ := congrArg List.length hL
          simpa using this
        simp [ByteArray.data_extract, hL, ← hA, this]
        rw [List.take_of_length_le (by omega)]
      rw [e1, e2]
      conv => rhs; rw [hL]
      rw [lns_app A B hno]
      rfl
/-- The two ends of a cut. -/
theorem pcs_cut (s : ByteArray) (c : UInt8) : pcs s ⟨#[c]⟩ = if (Lib.cut s.data.toList [c]).2.2 = true then toB (Lib.cut s.data.toList [c]).1 :: pcs (toB (Lib.cut s.data.toList [c]).2.1) ⟨#[c]⟩ else [s] := by
  have e0 : Lib.index s.data.toList [c] = Lib.indexByte s.data.toList c := Lib.index_one _ _
  rw [pcs_lns c _ s (Nat.lt_succ_self _)]
  have h1 := Lib.indexByte_ge s.data.toList c
  rcases Int.lt_or_le (Lib.indexByte s.data.toList c) 0 with h | h
  · have h2 : Lib.indexByte s.data.toList c = -1 := by omega
    rw [show Lib.cut s.data.toList [c] = (s.data.toList, [], false) by unfold Lib.cut; rw [if_neg (by rw [e0]; omega)]]
    rw [if_neg (by simp), lns_none _ (fun b hb e => ?_)]
    · rw [List.map_cons, toB_L]; rfl
    · obtain ⟨k, hk, rfl⟩ := List.getElem_of_mem hb
      exact Lib.indexByte_none h2 k (by rw [List.getElem?_eq_getElem hk, e])
  · obtain ⟨i, hi⟩ : ∃ i : Nat, Lib.indexByte s.data.toList c = i := ⟨_, (Int.toNat_of_nonneg h).symm⟩
    obtain ⟨A, B, hL, hA, hno⟩ := idx_split _ _ hi
    have e3 : Lib.cut s.data.toList [c] = (A, B, true) := by
      unfold Lib.cut
      rw [if_pos (by rw [e0]; omega), e0, hi, hL]
      simp [← hA]
    rw [e3, if_pos rfl, pcs_lns c _ (toB B) (Nat.lt_succ_self _)]
    conv => lhs; rw [hL]
    rw [lns_app A B hno]
    simp [toB]
/-- The level of a digit; -1: it is none. -/
def hexs : ByteArray := ⟨#[48, 49, 50, 51, 52, 53, 54, 55, 56, 57, 97, 98, 99, 100, 101, 102]⟩
def hexv (b : UInt8) : Int := Lib.indexByte hexs.data.toList b
theorem hex_set : ∀ n : Fin 256, decide (0 ≤ hexv (UInt8.ofNat n.val)) = hexs.data.toList.contains (UInt8.ofNat n.val) ∧ -1 ≤ hexv (UInt8.ofNat n.val) ∧ hexv (UInt8.ofNat n.val) ≤ 15 := by decide +kernel
theorem hex_iff (b : UInt8) : 0 ≤ hexv b ↔ hexs.data.toList.contains b = true := by
  have h := (hex_set ⟨b.toNat, b.toNat_lt⟩).1
  simp only [UInt8.ofNat_toNat] at h
  rw [← h, decide_eq_true_eq]
theorem hex_le (b : UInt8) : -1 ≤ hexv b ∧ hexv b ≤ 15 := by
  have h := (hex_set ⟨b.toNat, b.toNat_lt⟩).2
  simp only [UInt8.ofNat_toNat] at h
  exact h
theorem hex_nl : ¬ 0 ≤ hexv 10 := by decide
/-- The levels among the first k bytes, w in a row. -/
def lvs (w : Nat) (f : Nat → UInt8) : Nat → List Int
  | 0 => []
  | k + 1 => if k % (w + 1) = w then lvs w f k else lvs w f k ++ [hexv (f k)]
theorem lvs_shift (w : Nat) (f : Nat → UInt8) : ∀ k, lvs w f (w + 1 + k) = lvs w f (w + 1) ++ lvs w (fun i => f (w + 1 + i)) k
  | 0 => by simp [lvs]
  | k + 1 => by
    have ih := lvs_shift w f k
    have hm : (w + 1 + k) % (w + 1) = k % (w + 1) := Nat.add_mod_left _ _
    have e1 : lvs w f (w + 1 + (k + 1)) = if (w + 1 + k) % (w + 1) = w then lvs w f (w + 1 + k) else lvs w f (w + 1 + k) ++ [hexv (f (w + 1 + k))] := rfl
    have e2 : lvs w (fun i => f (w + 1 + i)) (k + 1) = if k % (w + 1) = w then lvs w (fun i => f (w + 1 + i)) k else lvs w (fun i => f (w + 1 + i)) k ++ [hexv (f (w + 1 + k))] := rfl
    rw [e1, e2, hm, ih]
    split
    · rfl
    · rw [List.append_assoc]
theorem lvs_row (w : Nat) (f : Nat → UInt8) : ∀ k, k ≤ w → lvs w f k = (List.range k).map (fun i => hexv (f i))
  | 0, _ => rfl
  | k + 1, h => by
    rw [lvs, if_neg (by rw [Nat.mod_eq_of_lt (by omega)]; omega), lvs_row w f k (by omega), List.range_succ, List.map_append]
    rfl
theorem lvs_congr (w : Nat) {f g : Nat → UInt8} : ∀ k, (∀ i, i < k → f i = g i) → lvs w f k = lvs w g k
  | 0, _ => rfl
  | k + 1, h => by
    rw [lvs, lvs, lvs_congr w k (fun i hi => h i (by omega)), h k (by omega)]
def rowOk (w : Nat) (p : List UInt8) : Prop := p.length = w ∧ ∀ b ∈ p, 0 ≤ hexv b
def assOk (w h : Nat) (R : List UInt8) : Prop := R.length = h * (w + 1) ∧ ∀ i, i < R.length → if i % (w + 1) = w then R.getD i 0 = 10 else 0 ≤ hexv (R.getD i 0)
def refOk (w h : Nat) (R : List UInt8) : Prop := (lns 10 R).length = h + 1 ∧ (lns 10 R).getD h [] = [] ∧ ∀ k, k < h → rowOk w ((lns 10 R).getD k [])
def imgOk (w h : Nat) (R : List UInt8) (rows : List (List UInt8)) : Prop := rows.length = h ∧ (∀ p ∈ rows, rowOk w p) ∧ R = rows.flatMap (· ++ [10])
theorem row_nl {w : Nat} {p : List UInt8} (h : rowOk w p) : ∀ b ∈ p, b ≠ 10 := fun b hb e => hex_nl (e ▸ h.2 b hb)
theorem lns_rows {w : Nat} : ∀ rows : List (List UInt8), (∀ p ∈ rows, rowOk w p) → lns 10 (rows.flatMap (· ++ [10])) = rows ++ [[]]
  | [], _ => rfl
  | p :: r, h => by
    rw [List.flatMap_cons, List.append_assoc, List.singleton_append, lns_app _ _ (row_nl (h p (by simp))), lns_rows r (fun x hx => h x (by simp [hx]))]
    rfl
theorem ref_rows {w h : Nat} {R : List UInt8} (H : refOk w h R) : imgOk w h R ((lns 10 R).take h) := by
  obtain ⟨h1, h2, h3⟩ := H
  obtain ⟨i, l, h4, h5⟩ := lns_join 10 R
  rw [h4] at h1 h2 h3 ⊢
  have hi : i.length = h := by simpa using h1
  subst hi
  have hl : l = [] := by simpa [List.getD] using h2
  subst hl
  refine ⟨by simp, fun p hp => ?_, ?_⟩
  · simp at hp
    obtain ⟨k, hk, rfl⟩ := List.getElem_of_mem hp
    have := h3 k hk
    simpa [List.getD, List.getElem?_append_left hk, hk] using this
  · simpa using h5
theorem ass_rows {w : Nat} : ∀ (h : Nat) (R : List UInt8), assOk w h R → ∃ rows, imgOk w h R rows
  | 0, R, H => ⟨[], rfl, fun p hp => (by cases hp), by simpa using List.eq_nil_of_length_eq_zero (by simpa using H.1)⟩
  | h + 1, R, ⟨h1, h2⟩ => by
    rw [Nat.succ_mul] at h1
    obtain ⟨rows, g1, g2, g3⟩ := ass_rows (w := w) h (R.drop (w + 1)) ⟨by rw [List.length_drop]; omega, fun i hi => by
      have hi : i < R.length - (w + 1) := by simpa using hi
      have := h2 (w + 1 + i) (by omega)
      rw [Nat.add_mod_left] at this
      simpa [List.getD] using this⟩
    have hw := h2 w (by omega)
    rw [if_pos (Nat.mod_eq_of_lt (by omega))] at hw
    have hw' : w < R.length := by omega
    refine ⟨R.take w :: rows, by simp [g1], fun p hp => ?_, ?_⟩
    · rcases List.mem_cons.1 hp with rfl | hp
      · refine ⟨by simp; omega, fun b hb => ?_⟩
        obtain ⟨k, hk, rfl⟩ := List.getElem_of_mem hb
        have hk' : k < w := by simp at hk; omega
        have := h2 k (by omega)
        rw [if_neg (by rw [Nat.mod_eq_of_lt (by omega)]; omega)] at this
        simpa [List.getD, show k < R.length by omega] using this
      · exact g2 p hp
    · rw [List.flatMap_cons, ← g3, List.append_assoc, List.singleton_append]
      have e : R.getD w 0 = R[w] := by simp [List.getD, hw']
      rw [← hw, e, List.getElem_cons_drop, List.take_append_drop]
theorem rows_ref {w h : Nat} {R : List UInt8} {rows : List (List UInt8)} (H : imgOk w h R rows) : refOk w h R ∧ (lns 10 R).take h = rows := by
  obtain ⟨h1, h2, h3⟩ := H
  have e := lns_rows rows h2
  rw [← h3] at e
  unfold refOk
  rw [e]
  subst h1
  refine ⟨⟨by simp, by simp [List.getD], fun k hk => ?_⟩, by simp⟩
  have := h2 rows[k] (List.getElem_mem hk)
  simpa [List.getD, List.getElem?_append_left hk, hk] using this
theorem rows_ass {w : Nat} : ∀ (h : Nat) (R : List UInt8) (rows : List (List UInt8)), imgOk w h R rows → assOk w h R ∧ lvs w (fun i => R.getD i 0) R.length = rows.flatMap (fun p => p.map hexv)
  | 0, R, rows, ⟨h1, h2, h3⟩ => by
    obtain rfl := List.eq_nil_of_length_eq_zero h1
    subst h3
    exact ⟨⟨by simp, fun i hi => by simp at hi⟩, rfl⟩
  | h + 1, R, [], ⟨h1, h2, h3⟩ => by cases h1
  | h + 1, R, p :: r, ⟨h1, h2, h3⟩ => by
    have hp := h2 p (by simp)
    obtain ⟨⟨g1, g2⟩, g3⟩ := rows_ass h (r.flatMap (· ++ [10])) r ⟨by simpa using h1, fun q hq => h2 q (by simp [hq]), rfl⟩
    rw [List.flatMap_cons] at h3
    generalize r.flatMap (· ++ [10]) = T at g1 g2 g3 h3
    have hpl := hp.1
    have hlen : R.length = w + 1 + T.length := by rw [h3]; simp; omega
    have hat : ∀ i, R.getD (w + 1 + i) 0 = T.getD i 0 := fun i => by
      rw [h3]
      simp only [List.getD]
      rw [List.getElem?_append_right (by simp; omega)]
      simp [hpl]
    have hlo : ∀ i, i < w → R.getD i 0 = p.getD i 0 := fun i hi => by
      rw [h3]
      simp only [List.getD, List.append_assoc]
      rw [List.getElem?_append_left (by omega)]
    have hnl : R.getD w 0 = 10 := by
      rw [h3]
      simp only [List.getD, List.append_assoc]
      rw [List.getElem?_append_right (by omega)]
      simp [hpl]
    refine ⟨⟨by rw [hlen, g1, Nat.succ_mul]; omega, fun i hi => ?_⟩, ?_⟩
    · rcases Nat.lt_trichotomy i w with hi2 | hi2 | hi2
      · rw [if_neg (by rw [Nat.mod_eq_of_lt (by omega)]; omega), hlo i hi2]
        have : p.getD i 0 ∈ p := by simp [List.getD, show i < p.length by omega]
        exact hp.2 _ this
      · subst hi2
        rw [if_pos (Nat.mod_eq_of_lt (by omega)), hnl]
      · obtain ⟨j, rfl⟩ : ∃ j, i = w + 1 + j := ⟨i - (w + 1), by omega⟩
        rw [Nat.add_mod_left, hat j]
        exact g2 j (by omega)
    · rw [hlen, lvs_shift, List.flatMap_cons, lvs, if_pos (Nat.mod_eq_of_lt (by omega)), lvs_row w _ w (Nat.le_refl _)]
      congr 1
      · apply List.ext_getElem
        · simp [hpl]
        · intro i g4 g5
          have g6 : i < w := by simpa using g4
          simp only [List.getElem_map, List.getElem_range]
          rw [hlo i g6]
          simp [List.getD, show i < p.length by omega]
      · rw [← g3]
        exact lvs_congr w _ fun i hi => hat i
/-- Both ways to read the rows come to the same. -/
theorem ass_ref (w h : Nat) (R : List UInt8) : assOk w h R ↔ refOk w h R := ⟨fun H => by
  obtain ⟨rows, hr⟩ := ass_rows h R H
  exact (rows_ref hr).1, fun H => (rows_ass h R _ (ref_rows H)).1⟩
theorem ass_lvs {w h : Nat} {R : List UInt8} (H : refOk w h R) : lvs w (fun i => R.getD i 0) R.length = ((lns 10 R).take h).flatMap (fun p => p.map hexv) := (rows_ass h R _ (ref_rows H)).2
end Go.Proofs.YtdpbgpkjlbdbfaaGreatDoor
