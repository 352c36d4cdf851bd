/-
  list.at, had, listFault, routed; the reference's HasAt, ListFault, RouteFault.
-/
import Derived.Test.YtkjflkbjepdaaaaGreatDoorU4
namespace Go.Proofs.YtkjflkbjepdaaaaGreatDoor
open Go.RowKit
set_option linter.unusedVariables false
set_option linter.unusedSimpArgs false
/-- Where parts lead; nothing is there: the zero value. -/
def nextV (v : Vu) (p : ByteArray) : Vu := (followP v p).getD .zero
def atP : List ByteArray → Vu → Vu
  | [], v => v
  | p :: r, v => atP r (nextV v p)
theorem followP_zero (p : ByteArray) : followP .zero p = none := by
  unfold followP
  have : stepR .zero p < 0 := by
    unfold stepR
    split
    · rw [if_neg (by decide)]; decide
    · rw [if_neg (fun h => absurd h.1 (by decide))]; decide
  rw [if_pos this]
theorem atP_zero : ∀ l : List ByteArray, atP l .zero = .zero
  | [] => rfl
  | p :: r => by
    have h : nextV .zero p = .zero := by unfold nextV; rw [followP_zero]; rfl
    rw [atP, h, atP_zero r]
theorem atP_get : ∀ (l : List ByteArray) (v : Vu), atP l v = (getP l v).getD .zero
  | [], _ => rfl
  | p :: r, v => by
    rw [atP, getP]
    unfold nextV
    cases h : followP v p with
    | none => exact atP_zero r
    | some x => exact atP_get r x
theorem atP_drop {l : List ByteArray} {k : Nat} {v : Vu} (h : k < l.length) : atP (l.drop k) v = atP (l.drop (k + 1)) (nextV v (l.getD k ⟨#[]⟩)) := by
  rw [drop_cons l ⟨#[]⟩ k h]; rfl
theorem atP_end {l : List ByteArray} {k : Nat} {v : Vu} (h : l.length ≤ k) : atP (l.drop k) v = v := by rw [List.drop_of_length_le h]; rfl
theorem item_zero : itemE .zero = 0 := by
  rw [itemE_eq]
  have h : headI .zero = 0 := by
    rw [headI_P]
    simp [Vu.zero, headP, skind, Vu.kind, Vu.b, Vu.i, Vu.text, Vu.items, Vu.keys, badStr_nil, size_nil, keysFrom_end]
  rw [if_pos h]
  rfl
theorem next_ok {v : Vu} {p : ByteArray} (h : itemE v = 0) : itemE (nextV v p) = 0 := by
  unfold nextV followP
  split
  · exact item_zero
  · rename_i h1
    rcases step_lt (p := p) (item_keys h).2 with h2 | ⟨m, h2, h3⟩
    · exact absurd h2 h1
    · rw [h2]
      exact item_mem h h3
/-- What a route leads to. -/
def hasR (v : Vu) (s : ByteArray) : Vu := atP (if routeOk false s = true then partsR s else []) v
theorem parts_ok {s : ByteArray} : ∀ p ∈ (if routeOk false s = true then partsR s else []), partOk false p = true := by
  intro p hp
  split at hp
  · rename_i h
    unfold routeOk at h
    unfold partsR at hp
    simp only [Bool.and_eq_true, Bool.or_eq_true, decide_eq_true_eq, List.all_eq_true] at h
    split at hp
    · cases hp
    · rename_i h2
      exact (h.2.resolve_left h2) p hp
  · cases hp
/-- What is wrong with a list, with a list and a route. -/
def listL : List Vu → Int
  | [] => 0
  | x :: r => if itemCheckE x = 0 then listL r else itemCheckE x
def listE (l : List Vu) : Int := if 2000 < l.length then 4 else listL l
theorem listL_drop {l : List Vu} {k : Nat} (h : k < l.length) : listL (l.drop k) = if itemCheckE (l.getD k .zero) = 0 then listL (l.drop (k + 1)) else itemCheckE (l.getD k .zero) := by
  rw [drop_cons l .zero k h]; simp only [listL]
theorem listL_end {l : List Vu} {k : Nat} (h : l.length ≤ k) : listL (l.drop k) = 0 := by rw [List.drop_of_length_le h]; rfl
theorem listL_mem : ∀ (l : List Vu), listL l = 0 → ∀ x ∈ l, itemCheckE x = 0
  | [], _, x, hx => by cases hx
  | a :: l, h, x, hx => by
    rw [listL] at h
    split at h
    · rename_i h1
      rcases List.mem_cons.1 hx with rfl | hx
      · exact h1
      · exact listL_mem l h x hx
    · rename_i h1
      exact absurd h h1
theorem itemCheck_ok {v : Vu} (h : itemCheckE v = 0) : itemE v = 0 := by
  unfold itemCheckE at h
  split at h
  · cases h
  · split at h
    · cases h
    · exact h
def routeE (l : List Vu) (s : ByteArray) : Int := if listE l ≠ 0 then listE l else if routeOk false s = true then 0 else 3
theorem routeE_ok {l : List Vu} {s : ByteArray} (h : routeE l s = 0) : (∀ x ∈ l, itemE x = 0) ∧ routeOk false s = true := by
  unfold routeE at h
  split at h
  · rename_i h1
    exact absurd h h1
  · rename_i h1
    have h1 : listE l = 0 := Classical.byContradiction h1
    unfold listE at h1
    split at h1
    · cases h1
    · split at h
      · rename_i h2
        exact ⟨fun x hx => itemCheck_ok (listL_mem l h1 x hx), h2⟩
      · cases h
theorem wt_memU : ∀ (l : List Vu) (x : Vu), x ∈ l → x.wt ≤ Vu.wtL l
  | a :: l, x, h => by
    rcases List.mem_cons.1 h with rfl | h
    · simp [Vu.wtL]
    · have := wt_memU l x h; simp [Vu.wtL]; omega
theorem sum_mem {l : List Vu} {n : Nat} (h : Vu.wtL l ≤ n) {k : Nat} (hk : k < l.length) : (l.getD k .zero).wt ≤ n := Nat.le_trans (wt_memU l _ (getD_mem l .zero k hk)) h
section
variable (E : Env)
set_option maxRecDepth 100000
set_option maxHeartbeats 1000000 in
theorem listFault_sp (l : List Vu) (hw : Vu.wtL l ≤ 100000000) : Sp (cx Tryz.prog mixed tyT_ok E) 29 [.rc (.vals l)] (i64 (listE l)) := by
  obtain ⟨r, hr⟩ : ∃ r, r = listE l := ⟨_, rfl⟩
  rw [← hr]
  unfold listE at hr
  refine Sp.body Tryz.func29 (by kernel_rfl) rfl (by kernel_rfl) (by kernel_rfl) (by kernel_rfl) ?_
  repeat' first
    | (refine facW_intro ?_; intro _)
    | refine Or.inl ?_
    | ((conv => whnf); first | (refine condW_dec ?_ ?_ <;> intro _) | refine condW_not ?_ | (refine condW_bool ?_ ?_ <;> intro _) | (refine nbC_t (fun _ => ?_) ?_) | (refine nbC_f ?_ (fun _ => ?_)))
    | refine And.intro (by first | omega | (simp only [Int.toNat_natCast] at *; omega) | (simp only [Nat.reduceAdd, Int.cast_ofNat_Int, true_and, and_true]; omega) | kernel_rfl) ?_
    | refine RegW.run ?_
    | fail
  · exact Dle.i (by rw [hr, if_pos (by omega)])
  · rw [if_neg (by omega)] at hr
    refine ⟨Nat, fun k => [(11, i64 k)], fun k => [], [], fun k => [], fun k => k ≤ l.length ∧ r = listL (l.drop k), fun k => l.length - k, ⟨0, ⟨by omega, hr⟩, ⟨[], ⟨by kernel_rfl, by kernel_rfl, by kernel_rfl, by kernel_rfl, by kernel_rfl, by kernel_rfl, by kernel_rfl⟩, (by repeat' first | exact trivial | exact rfl | kernel_rfl | exact Dle.of_eq rfl | exact MLe.of_eq rfl | exact Dle.i (by omega) | exact Dle.i (by simp only [Int.toNat_natCast] at *; omega) | exact Dle.nil | exact Dle.rc Dle.nil | exact Option.some_ne_none _ | exact Or.inl rfl | exact Or.inr trivial | omega | (simp only [Int.toNat_natCast] at *; omega) | (intro _ _ _ _; exact Dle.of_eq rfl) | refine And.intro ?_ ?_)⟩⟩, fun k hk => ?_⟩
    obtain ⟨hk, hK⟩ := hk
    refine Or.inl ?_
    refine condW_dec ?_ ?_ <;> intro hlt
    · have hlt : k < l.length := by omega
      rw [listL_drop hlt] at hK
      have hc := checkItem_sp E (l.getD k .zero) (by have := cnt_le_wt (l.getD k .zero); have := sum_mem hw hlt; omega)
      generalize itemCheckE (l.getD k .zero) = e at hc hK
      repeat' first
        | (refine facW_intro ?_; intro _)
        | refine Or.inl ?_
        | ((conv => whnf); first | (refine condW_dec ?_ ?_ <;> intro _) | refine condW_not ?_ | (refine condW_bool ?_ ?_ <;> intro _) | (refine nbC_t (fun _ => ?_) ?_) | (refine nbC_f ?_ (fun _ => ?_)))
        | refine And.intro (by first | omega | (simp only [Int.toNat_natCast] at *; omega) | (simp only [Nat.reduceAdd, Int.cast_ofNat_Int, true_and, and_true]; omega) | kernel_rfl) ?_
        | refine RegW.run ?_
        | refine ⟨_, hc, ?_⟩
        | fail
      · rename_i h
        exact ⟨k + 1, ⟨by omega, by rw [hK, if_pos h]⟩, ⟨[], ⟨by kernel_rfl, by kernel_rfl, by kernel_rfl, by kernel_rfl, by kernel_rfl, by kernel_rfl, by kernel_rfl⟩, (by repeat' first | exact trivial | exact rfl | kernel_rfl | exact Dle.of_eq rfl | exact MLe.of_eq rfl | exact Dle.i (by omega) | exact Dle.i (by simp only [Int.toNat_natCast] at *; omega) | exact Dle.nil | exact Dle.rc Dle.nil | exact Option.some_ne_none _ | exact Or.inl rfl | exact Or.inr trivial | omega | (simp only [Int.toNat_natCast] at *; omega) | (intro _ _ _ _; exact Dle.of_eq rfl) | refine And.intro ?_ ?_)⟩, by first | omega | (dsimp only; omega)⟩
      · rename_i h
        exact Dle.i (by rw [hK, if_neg h])
    · repeat' first
        | (refine facW_intro ?_; intro _)
        | refine Or.inl ?_
        | ((conv => whnf); first | (refine condW_dec ?_ ?_ <;> intro _) | refine condW_not ?_ | (refine condW_bool ?_ ?_ <;> intro _) | (refine nbC_t (fun _ => ?_) ?_) | (refine nbC_f ?_ (fun _ => ?_)))
        | refine And.intro (by first | omega | (simp only [Int.toNat_natCast] at *; omega) | (simp only [Nat.reduceAdd, Int.cast_ofNat_Int, true_and, and_true]; omega) | kernel_rfl) ?_
        | refine RegW.run ?_
        | fail
      exact Dle.i (by rw [hK, listL_end (by omega)])
set_option maxHeartbeats 1000000 in
theorem refListFault_sp (l : List Vu) (hw : Vu.wtL l ≤ 100000000) : Sp (cx Tryz.prog mixed tyT_ok E) 12 [.rc (.vals l)] (i64 (listE l)) := by
  obtain ⟨r, hr⟩ : ∃ r, r = listE l := ⟨_, rfl⟩
  rw [← hr]
  unfold listE at hr
  refine Sp.body Tryz.func12 (by kernel_rfl) rfl (by kernel_rfl) (by kernel_rfl) (by kernel_rfl) ?_
  repeat' first
    | (refine facW_intro ?_; intro _)
    | refine Or.inl ?_
    | ((conv => whnf); first | (refine condW_dec ?_ ?_ <;> intro _) | refine condW_not ?_ | (refine condW_bool ?_ ?_ <;> intro _) | (refine nbC_t (fun _ => ?_) ?_) | (refine nbC_f ?_ (fun _ => ?_)))
    | refine And.intro (by first | omega | (simp only [Int.toNat_natCast] at *; omega) | (simp only [Nat.reduceAdd, Int.cast_ofNat_Int, true_and, and_true]; omega) | kernel_rfl) ?_
    | refine RegW.run ?_
    | fail
  · exact Dle.i (by rw [hr, if_pos (by omega)])
  · rw [if_neg (by omega)] at hr
    refine ⟨Nat, fun k => [(11, i64 k)], fun k => [], [], fun k => [], fun k => k ≤ l.length ∧ r = listL (l.drop k), fun k => l.length - k, ⟨0, ⟨by omega, hr⟩, ⟨[], ⟨by kernel_rfl, by kernel_rfl, by kernel_rfl, by kernel_rfl, by kernel_rfl, by kernel_rfl, by kernel_rfl⟩, (by repeat' first | exact trivial | exact rfl | kernel_rfl | exact Dle.of_eq rfl | exact MLe.of_eq rfl | exact Dle.i (by omega) | exact Dle.i (by simp only [Int.toNat_natCast] at *; omega) | exact Dle.nil | exact Dle.rc Dle.nil | exact Option.some_ne_none _ | exact Or.inl rfl | exact Or.inr trivial | omega | (simp only [Int.toNat_natCast] at *; omega) | (intro _ _ _ _; exact Dle.of_eq rfl) | refine And.intro ?_ ?_)⟩⟩, fun k hk => ?_⟩
    obtain ⟨hk, hK⟩ := hk
    refine Or.inl ?_
    refine condW_dec ?_ ?_ <;> intro hlt
    · have hlt : k < l.length := by omega
      rw [listL_drop hlt] at hK
      have hc := refItem_sp E (l.getD k .zero) (by have := cnt_le_wt (l.getD k .zero); have := sum_mem hw hlt; omega)
      generalize itemCheckE (l.getD k .zero) = e at hc hK
      repeat' first
        | (refine facW_intro ?_; intro _)
        | refine Or.inl ?_
        | ((conv => whnf); first | (refine condW_dec ?_ ?_ <;> intro _) | refine condW_not ?_ | (refine condW_bool ?_ ?_ <;> intro _) | (refine nbC_t (fun _ => ?_) ?_) | (refine nbC_f ?_ (fun _ => ?_)))
        | refine And.intro (by first | omega | (simp only [Int.toNat_natCast] at *; omega) | (simp only [Nat.reduceAdd, Int.cast_ofNat_Int, true_and, and_true]; omega) | kernel_rfl) ?_
        | refine RegW.run ?_
        | refine ⟨_, hc, ?_⟩
        | fail
      · rename_i h
        exact ⟨k + 1, ⟨by omega, by rw [hK, if_pos h]⟩, ⟨[], ⟨by kernel_rfl, by kernel_rfl, by kernel_rfl, by kernel_rfl, by kernel_rfl, by kernel_rfl, by kernel_rfl⟩, (by repeat' first | exact trivial | exact rfl | kernel_rfl | exact Dle.of_eq rfl | exact MLe.of_eq rfl | exact Dle.i (by omega) | exact Dle.i (by simp only [Int.toNat_natCast] at *; omega) | exact Dle.nil | exact Dle.rc Dle.nil | exact Option.some_ne_none _ | exact Or.inl rfl | exact Or.inr trivial | omega | (simp only [Int.toNat_natCast] at *; omega) | (intro _ _ _ _; exact Dle.of_eq rfl) | refine And.intro ?_ ?_)⟩, by first | omega | (dsimp only; omega)⟩
      · rename_i h
        exact Dle.i (by rw [hK, if_neg h])
    · repeat' first
        | (refine facW_intro ?_; intro _)
        | refine Or.inl ?_
        | ((conv => whnf); first | (refine condW_dec ?_ ?_ <;> intro _) | refine condW_not ?_ | (refine condW_bool ?_ ?_ <;> intro _) | (refine nbC_t (fun _ => ?_) ?_) | (refine nbC_f ?_ (fun _ => ?_)))
        | refine And.intro (by first | omega | (simp only [Int.toNat_natCast] at *; omega) | (simp only [Nat.reduceAdd, Int.cast_ofNat_Int, true_and, and_true]; omega) | kernel_rfl) ?_
        | refine RegW.run ?_
        | fail
      exact Dle.i (by rw [hK, listL_end (by omega)])
theorem hasAt_sp (hML : ∀ w, E.G w → ML w) (v : Vu) (s : ByteArray) (hv : itemE v = 0) (hs : s.size ≤ 1000000000) : Sp (cx Tryz.prog mixed tyT_ok E) 51 [encV v, dS s] (encV (hasR v s)) := by
  have h2 := routeParts_sp E hML s false hs
  have h3 := refFollow_sp E v _ (parts_ok (s := s)) hv
  unfold hasR
  rw [atP_get]
  generalize (if routeOk false s = true then partsR s else []) = ps at h2 h3
  generalize (getP ps v).getD .zero = x at h3
  generalize (getP ps v).isSome = b at h3
  refine Sp.body Tryz.func51 (by kernel_rfl) rfl (by kernel_rfl) (by kernel_rfl) (by kernel_rfl) ?_
  repeat' first
    | (refine facW_intro ?_; intro _)
    | refine Or.inl ?_
    | ((conv => whnf); first | (refine condW_dec ?_ ?_ <;> intro _) | refine condW_not ?_ | (refine condW_bool ?_ ?_ <;> intro _) | (refine nbC_t (fun _ => ?_) ?_) | (refine nbC_f ?_ (fun _ => ?_)))
    | refine And.intro (by first | omega | (simp only [Int.toNat_natCast] at *; omega) | (simp only [Nat.reduceAdd, Int.cast_ofNat_Int, true_and, and_true]; omega) | kernel_rfl) ?_
    | refine RegW.run ?_
    | refine ⟨_, h2, ?_⟩
    | refine ⟨_, h3, ?_⟩
    | fail
  exact Dle.refl _ _
end
end Go.Proofs.YtkjflkbjepdaaaaGreatDoor
