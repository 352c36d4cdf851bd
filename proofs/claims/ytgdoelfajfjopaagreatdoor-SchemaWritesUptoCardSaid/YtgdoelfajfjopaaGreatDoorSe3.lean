/-
  A value without the item to which a route leads: what Remove answers; the program's Remove. conf.set, plain: what it gives. Strings among strings. Setting a value, plain: weights; what the reference's put needs.
-/
import Derived.Test.YtgdoelfajfjopaaGreatDoorCr0
import Derived.Test.YtgdoelfajfjopaaGreatDoorK0
import Derived.Test.YtgdoelfajfjopaaGreatDoorSe0
import Derived.Test.YtgdoelfajfjopaaGreatDoorS3
import Derived.Test.YtgdoelfajfjopaaGreatDoorRs0
namespace Go.Proofs.YtgdoelfajfjopaaGreatDoor
open Go.RowKit
set_option linter.unusedVariables false
set_option linter.unusedSimpArgs false
namespace cr
theorem wtL_erase : ∀ (l : List Vu) (m : Nat), Vu.wtL (l.eraseIdx m) ≤ Vu.wtL l
  | [], m => by simp [Vu.wtL]
  | x :: r, 0 => by simp only [List.eraseIdx_cons_zero, Vu.wtL]; omega
  | x :: r, m + 1 => by
    have := wtL_erase r m
    simp only [List.eraseIdx_cons_succ, Vu.wtL]
    omega
theorem wtL_set : ∀ (l : List Vu) (m : Nat) (y : Vu), y.wt ≤ (l.getD m .zero).wt → Vu.wtL (l.set m y) ≤ Vu.wtL l
  | [], m, y, _ => by simp [Vu.wtL]
  | x :: r, 0, y, h => by
    have h : y.wt ≤ x.wt := h
    simp only [List.set_cons_zero, Vu.wtL]
    omega
  | x :: r, m + 1, y, h => by
    have := wtL_set r m y h
    simp only [List.set_cons_succ, Vu.wtL]
    omega
theorem sum_erase : ∀ (l : List ByteArray) (m : Nat), ((l.eraseIdx m).map fun s => s.size + 1).sum ≤ (l.map fun s => s.size + 1).sum
  | [], m => by simp
  | x :: r, 0 => by simp only [List.eraseIdx_cons_zero, List.map_cons, List.sum_cons]; omega
  | x :: r, m + 1 => by
    have := sum_erase r m
    simp only [List.eraseIdx_cons_succ, List.map_cons, List.sum_cons]
    omega
theorem wt_eq (v : Vu) : v.wt = v.text.size + 1 + Vu.wtL v.items + (v.keys.map fun s => s.size + 1).sum := by cases v; simp only [Vu.wt, Vu.text, Vu.items, Vu.keys]
theorem remAt_wt (v : Vu) (k : Nat) : (remAt v k).wt ≤ v.wt := by
  have h1 := wtL_erase v.items k
  have h2 := sum_erase v.keys k
  have e := wt_eq v
  unfold remAt
  by_cases h6 : v.kind = 6
  · rw [if_pos h6]
    simp only [Vu.wt]
    omega
  · rw [if_neg h6]
    simp only [Vu.wt]
    omega
theorem setAt_wt (v y : Vu) (k : Nat) (h : y.wt ≤ (v.items.getD k .zero).wt) : (setAt v k y).wt ≤ v.wt := by
  cases v with
  | mk k0 b i t l ks =>
    have h1 := wtL_set l k y h
    simp only [setAt, Vu.wt, Vu.kind, Vu.b, Vu.i, Vu.text, Vu.items, Vu.keys]
    omega
theorem remS_wt : ∀ (L : List Stp) (v y : Vu), (∀ s ∈ L, s.ok) → faultE v = 0 → remS L v = some y → y.wt ≤ v.wt
  | [], v, y, _, _, h => by simp [remS] at h
  | [s], v, y, hs, hf, h => by
    unfold remS at h
    split at h
    · cases h
    · injection h with h
      subst h
      exact remAt_wt _ _
  | s :: t :: r, v, y, hs, hf, h => by
    unfold remS at h
    split at h
    · cases h
    · rename_i x hx
      split at h
      · cases h
      · rename_i z hz
        injection h with h
        subst h
        have h0 := hs s List.mem_cons_self
        obtain ⟨_, p2, _⟩ := pos_at h0 hf hx
        refine setAt_wt _ _ _ ?_
        rw [← p2]
        exact remS_wt (t :: r) x z (fun q hq => hs q (List.mem_cons_of_mem _ hq)) (follow_mem h0 hf hx).1 hz
theorem rem_some : ∀ (L : List Stp) (v : Vu), L ≠ [] → ((remS L v).isSome = (getS L v).isSome)
  | [], v, h => absurd rfl h
  | [s], v, _ => by
    unfold remS getS
    cases followS v s <;> rfl
  | s :: t :: r, v, _ => by
    have ih := fun x => rem_some (t :: r) x (by simp)
    unfold remS
    rw [getS]
    cases followS v s with
    | none => rfl
    | some x =>
      show _ = (getS (t :: r) x).isSome
      rw [← ih x]
      show (match remS (t :: r) x with | none => none | some y => some (setAt v (posS v s) y)).isSome = _
      cases remS (t :: r) x <;> rfl
/-- What Remove answers. -/
def removeR (v : Vu) (s : ByteArray) : Vu × Int :=
  if checkE v ≠ 0 then (.zero, checkE v) else if routeOk false s = false ∨ s = ⟨#[]⟩ then (.zero, 3) else match remS ((partsR s).map stepOf) v with
    | some x => (x, 0)
    | none => (.zero, 7)
theorem route_len {s : ByteArray} (h : routeOk false s = true) : (partsR s).length = 0 ↔ s = ⟨#[]⟩ := parts_none (fun h2 => by rw [routeOk_long h2] at h; cases h)
section
variable (E : Env)
set_option maxRecDepth 100000
end
end cr
end Go.Proofs.YtgdoelfajfjopaaGreatDoor
namespace Go.Proofs.YtgdoelfajfjopaaGreatDoor
open Go.RowKit
set_option linter.unusedVariables false
set_option linter.unusedSimpArgs false
namespace se
open cr
/-- The kind of value that a step asks for. -/
def kindS (s : Stp) : Int := if s.key = ⟨#[]⟩ then 5 else 6
/-- A value where there was none. -/
def asK (v : Vu) (k : Int) : Vu := if v.kind = 0 then .mk k false 0 ⟨#[]⟩ [] [] else v
/-- A value with an item put where a step leads. -/
def putAt (u : Vu) (s : Stp) (y : Vu) : Vu :=
  if s.key = ⟨#[]⟩ then .mk 5 false 0 ⟨#[]⟩ (if s.number = (u.items.length : Int) then u.items ++ [y] else u.items.set s.number.toNat y) [] else putK u s.key y
/-- A value put where steps lead; an error. -/
def setS : List Stp → Vu → Vu → Vu × Int
  | [], _, x => (x, 0)
  | s :: r, v, x =>
    if (asK v (kindS s)).kind ≠ kindS s then (.zero, 10)
    else if s.key = ⟨#[]⟩ ∧ ((asK v (kindS s)).items.length : Int) < s.number then (.zero, 2)
    else if (setS r ((followS (asK v (kindS s)) s).getD .zero) x).2 ≠ 0 then (.zero, (setS r ((followS (asK v (kindS s)) s).getD .zero) x).2)
    else (putAt (asK v (kindS s)) s (setS r ((followS (asK v (kindS s)) s).getD .zero) x).1, 0)
theorem fault_empty (k : Int) (h : k = 0 ∨ k = 5 ∨ k = 6) : faultE (.mk k false 0 ⟨#[]⟩ [] []) = 0 := by
  have hb : badStr ⟨#[]⟩ = false := by unfold badStr; rfl
  have hk : keysFrom [] 0 = 0 := keysFrom_end (by simp)
  have hh : headE (.mk k false 0 ⟨#[]⟩ [] []) = 0 := by
    unfold headE
    rcases h with rfl | rfl | rfl <;> simp [unusedP, Vu.kind, Vu.b, Vu.i, Vu.text, Vu.items, Vu.keys, hb, hk, show (⟨#[]⟩ : ByteArray).size = 0 from rfl]
  rw [faultE_eq, hh]
  rfl
/-- A value of no kind that Check lets pass is empty. -/
theorem fault_nil (v : Vu) (h : faultE v = 0) (hk : v.kind = 0) : v = .zero := by
  have hh : headE v = 0 := by
    rw [faultE_eq] at h
    split at h
    · assumption
    · exact h
  have hu : ¬ unusedP v := fun hu => by
    unfold headE at hh
    rw [if_neg (by omega), if_pos hu] at hh
    cases hh
  cases v with
  | mk k b i t l ks =>
    simp only [unusedP, Vu.kind, Vu.b, Vu.i, Vu.text, Vu.items, Vu.keys] at hu hk
    subst hk
    have hb : b = false := by cases b with | false => rfl | true => exact absurd (.inl ⟨rfl, by omega⟩) hu
    have hi : i = 0 := Classical.byContradiction fun h => hu (.inr (.inl ⟨h, by omega, by omega⟩))
    have ht : t = ⟨#[]⟩ := Classical.byContradiction fun h => hu (.inr (.inr (.inl ⟨h, by omega⟩)))
    have hl : l = [] := Classical.byContradiction fun h => hu (.inr (.inr (.inr (.inl ⟨List.length_pos_iff.2 h, by omega, by omega⟩))))
    have hks : ks = [] := Classical.byContradiction fun h => hu (.inr (.inr (.inr (.inr (.inl ⟨List.length_pos_iff.2 h, by omega⟩)))))
    subst hb hi ht hl hks
    rfl
theorem asK_fault (v : Vu) (s : Stp) (h : faultE v = 0) : faultE (asK v (kindS s)) = 0 := by
  unfold asK
  split
  · exact fault_empty _ (by unfold kindS; split <;> simp)
  · exact h
end se
end Go.Proofs.YtgdoelfajfjopaaGreatDoor
namespace Go.Proofs.YtgdoelfajfjopaaGreatDoor
open Go.RowKit
set_option linter.unusedVariables false
set_option linter.unusedSimpArgs false
namespace ts
/-- Whether a string is among the first k ones. -/
def inK (ps : List ByteArray) (k : Nat) (s : ByteArray) : Bool := !allN k (fun i => decide (¬ ps.getD i ⟨#[]⟩ = s))
theorem first_no {p : Nat → Bool} : ∀ {k : Nat}, allN k p = false → ∃ m, m < k ∧ p m = false ∧ ∀ i, i < m → p i = true
  | 0, h => by simp [allN] at h
  | k + 1, h => by
    by_cases h1 : allN k p = true
    · refine ⟨k, by omega, ?_, fun i hi => allN_iff.1 h1 i hi⟩
      by_cases h2 : p k = true
      · rw [allN_succ h1 h2] at h
        cases h
      · simpa using h2
    · obtain ⟨m, h2, h3, h4⟩ := first_no (by simpa using h1 : allN k p = false)
      exact ⟨m, by omega, h3, h4⟩
end ts
end Go.Proofs.YtgdoelfajfjopaaGreatDoor
namespace Go.Proofs.YtgdoelfajfjopaaGreatDoor
open Go.RowKit
set_option linter.unusedVariables false
set_option linter.unusedSimpArgs false
namespace se
open cr
/-- A list with one more at a place. -/
def insL {α : Type} (l : List α) (m : Nat) (y : α) : List α := l.take m ++ y :: l.drop m
theorem insL_len {α : Type} (l : List α) (m : Nat) (y : α) (hm : m ≤ l.length) : (insL l m y).length = l.length + 1 := by
  unfold insL
  rw [pl_len l y m m hm]
  omega
theorem insL_at {α : Type} (l : List α) (m i : Nat) (y d : α) (hm : m ≤ l.length) : (insL l m y).getD i d = if i < m then l.getD i d else if i = m then y else l.getD (i - 1) d := by
  unfold insL
  rw [pl_at l y m m i d hm]
  by_cases h : i < m
  · rw [if_pos h, if_pos h]
  · rw [if_neg h, if_neg h]
    by_cases h2 : i = m
    · rw [if_pos h2, if_pos h2]
    · rw [if_neg h2, if_neg h2, show i - (m + 1) + m = i - 1 by omega]
theorem pl_set {α : Type} : ∀ (l : List α) (m : Nat) (y : α), m < l.length → l.take m ++ y :: l.drop (m + 1) = l.set m y
  | [], m, y, h => by simp at h
  | x :: r, 0, y, _ => by simp
  | x :: r, m + 1, y, h => by
    have := pl_set r m y (by simpa using h)
    simp only [List.take_succ_cons, List.drop_succ_cons, List.set_cons_succ, List.cons_append, this]
theorem ins_set {α : Type} : ∀ (l : List α) (m : Nat) (z y : α), m ≤ l.length → (insL l m z).set m y = insL l m y
  | l, 0, z, y, _ => by simp [insL]
  | [], m + 1, z, y, h => by simp at h
  | x :: r, m + 1, z, y, h => by
    have := ins_set r m z y (by simpa using h)
    unfold insL at this ⊢
    simp only [List.take_succ_cons, List.drop_succ_cons, List.set_cons_succ, List.cons_append, this]
theorem set_self {α : Type} (l : List α) (m : Nat) (y d : α) (hm : m < l.length) (h : l.getD m d = y) : l.set m y = l := by
  apply List.ext_getElem?
  intro i
  rw [List.getElem?_set]
  by_cases e : m = i
  · subst e
    rw [if_pos rfl, if_pos hm, List.getElem?_eq_getElem hm]
    rw [List.getD_eq_getElem?_getD, List.getElem?_eq_getElem hm] at h
    rw [← h]
    rfl
  · rw [if_neg e]
theorem wtL_app : ∀ (a b : List Vu), Vu.wtL (a ++ b) = Vu.wtL a + Vu.wtL b
  | [], b => by simp [Vu.wtL]
  | x :: r, b => by
    have := wtL_app r b
    simp only [List.cons_append, Vu.wtL]
    omega
theorem wtL_pl : ∀ (l : List Vu) (m : Nat) (y : Vu), Vu.wtL (l.take m ++ y :: l.drop (m + 1)) + (l.getD m .zero).wt ≤ Vu.wtL l + y.wt + 1
  | [], m, y => by
    have : (Vu.zero).wt = 1 := rfl
    simp only [List.take_nil, List.drop_nil, List.nil_append, Vu.wtL, List.getD_nil]
    omega
  | x :: r, 0, y => by
    simp only [List.take_zero, List.drop_succ_cons, List.drop_zero, List.nil_append, Vu.wtL, List.getD_cons_zero]
    omega
  | x :: r, m + 1, y => by
    have := wtL_pl r m y
    simp only [List.take_succ_cons, List.drop_succ_cons, List.cons_append, Vu.wtL, List.getD_cons_succ]
    omega
theorem wtL_in (l : List Vu) (m : Nat) (y : Vu) : Vu.wtL (l.take m ++ y :: l.drop m) = Vu.wtL l + y.wt := by
  have h := wtL_app (l.take m) (l.drop m)
  rw [List.take_append_drop] at h
  rw [wtL_app, h]
  simp only [Vu.wtL]
  omega
def ksz (l : List ByteArray) : Nat := (l.map fun s => s.size + 1).sum
theorem ksz_app (a b : List ByteArray) : ksz (a ++ b) = ksz a + ksz b := by unfold ksz; rw [List.map_append, List.sum_append]
theorem ksz_in (l : List ByteArray) (m : Nat) (y : ByteArray) : ksz (l.take m ++ y :: l.drop m) = ksz l + y.size + 1 := by
  have h := ksz_app (l.take m) (l.drop m)
  rw [List.take_append_drop] at h
  rw [ksz_app, h]
  unfold ksz
  rw [List.map_cons, List.sum_cons]
  omega
theorem ksz_drop (l : List ByteArray) (m : Nat) : ksz (l.drop (m + 1)) ≤ ksz (l.drop m) := by
  rw [← List.tail_drop]
  cases l.drop m with
  | nil => exact Nat.le_refl _
  | cons a r =>
    show ksz r ≤ ksz (a :: r)
    unfold ksz
    rw [List.map_cons, List.sum_cons]
    omega
theorem ksz_pl (l : List ByteArray) (m : Nat) (y : ByteArray) : ksz (l.take m ++ y :: l.drop (m + 1)) ≤ ksz l + y.size + 1 := by
  have h := ksz_in l m y
  have h2 := ksz_drop l m
  rw [ksz_app] at h ⊢
  unfold ksz at *
  rw [List.map_cons, List.sum_cons] at h ⊢
  omega
theorem wt_set (l : List Vu) (m : Nat) (y : Vu) : Vu.wtL (l.set m y) + (l.getD m .zero).wt ≤ Vu.wtL l + y.wt + 1 := by
  rcases Nat.lt_or_ge m l.length with h | h
  · rw [← pl_set l m y h]
    exact wtL_pl l m y
  · have : (Vu.zero).wt = 1 := rfl
    rw [List.set_eq_of_length_le h, List.getD_eq_getElem?_getD, List.getElem?_eq_none h]
    show _ + (Vu.zero).wt ≤ _
    omega
theorem zero_wt : (Vu.zero).wt = 1 := rfl
theorem put_wt (u : Vu) (s : Stp) (y : Vu) (hk : u.kind = kindS s) (hs : s.ok) : (putAt u s y).wt + ((followS u s).getD .zero).wt ≤ u.wt + y.wt + s.key.size + 2 := by
  have e := wt_eq u
  have e2 : (u.keys.map fun s => s.size + 1).sum = ksz u.keys := rfl
  have z := zero_wt
  unfold putAt followS
  unfold Stp.ok at hs
  by_cases h : s.key = ⟨#[]⟩
  · rw [if_pos h, if_pos h]
    unfold kindS at hk
    rw [if_pos h] at hk
    by_cases h2 : s.number = (u.items.length : Int)
    · rw [if_pos h2, if_neg (fun h => by omega)]
      have h3 := wtL_app u.items [y]
      simp only [Vu.wt, Vu.wtL, Option.getD_none, List.map_nil, List.sum_nil, show (⟨#[]⟩ : ByteArray).size = 0 from rfl] at h3 ⊢
      omega
    · rw [if_neg h2]
      have h3 := wt_set u.items s.number.toNat y
      have h4 : ((if u.kind = 5 ∧ s.number < (u.items.length : Int) then some (u.items.getD s.number.toNat .zero) else none).getD .zero).wt ≤ (u.items.getD s.number.toNat .zero).wt := by
        split
        · exact Nat.le_refl _
        · rename_i h5
          have : u.items.length ≤ s.number.toNat := by omega
          rw [List.getD_eq_getElem?_getD, List.getElem?_eq_none this]
          exact Nat.le_refl _
      simp only [Vu.wt, List.map_nil, List.sum_nil, show (⟨#[]⟩ : ByteArray).size = 0 from rfl]
      omega
  · rw [if_neg h, if_neg h]
    unfold kindS at hk
    rw [if_neg h] at hk
    unfold putK
    cases hh : hasK u s.key with
    | true =>
      rw [if_pos ⟨hk, rfl⟩]
      have h3 := wtL_pl u.items (findK u s.key) y
      have h4 := ksz_pl u.keys (findK u s.key) s.key
      unfold ksz at h4 e2
      simp only [Vu.wt, Option.getD_some, cond_true, show (⟨#[]⟩ : ByteArray).size = 0 from rfl]
      omega
    | false =>
      rw [if_neg (fun h => by cases h.2)]
      have h3 := wtL_in u.items (findK u s.key) y
      have h4 := ksz_in u.keys (findK u s.key) s.key
      unfold ksz at h4 e2
      simp only [Vu.wt, Option.getD_none, cond_false, Nat.add_zero, show (⟨#[]⟩ : ByteArray).size = 0 from rfl]
      omega
/-- What the steps may add. -/
def stW (L : List Stp) : Nat := (L.map fun s => s.key.size + 2).sum
theorem wt_pos (v : Vu) : 1 ≤ v.wt := by rw [wt_eq]; omega
theorem asK_wt (v : Vu) (k : Int) : (asK v k).wt ≤ v.wt := by
  unfold asK
  split
  · have := wt_pos v
    exact this
  · exact Nat.le_refl _
theorem setS_wt : ∀ (L : List Stp) (v x : Vu), (∀ s ∈ L, s.ok) → (setS L v x).1.wt ≤ v.wt + x.wt + stW L
  | [], v, x, _ => by
    show x.wt ≤ _
    omega
  | s :: r, v, x, hs => by
    have hw := wt_pos v
    have hz := zero_wt
    have ha := asK_wt v (kindS s)
    have hst : stW (s :: r) = s.key.size + 2 + stW r := by unfold stW; rw [List.map_cons, List.sum_cons]
    unfold setS
    split
    · show (Vu.zero).wt ≤ _
      omega
    · rename_i h1
      split
      · show (Vu.zero).wt ≤ _
        omega
      · split
        · show (Vu.zero).wt ≤ _
          omega
        · have ih := setS_wt r ((followS (asK v (kindS s)) s).getD .zero) x (fun q hq => hs q (List.mem_cons_of_mem _ hq))
          have h2 := put_wt (asK v (kindS s)) s (setS r ((followS (asK v (kindS s)) s).getD .zero) x).1 (Classical.not_not.1 h1) (hs s List.mem_cons_self)
          show (putAt _ _ _).wt ≤ _
          omega
/-- A value without a fault has nothing beside what its kind uses. -/
theorem clean (v : Vu) (h : faultE v = 0) (hk : v.kind = 0 ∨ v.kind = 5 ∨ v.kind = 6) : v.b = false ∧ v.i = 0 ∧ v.text = ⟨#[]⟩ ∧ (v.kind ≠ 6 → v.keys = []) := by
  have hu := (head_ok (fault_head h).1).1
  unfold unusedP at hu
  refine ⟨?_, ?_, ?_, fun h6 => ?_⟩
  · cases hb : v.b with
    | false => rfl
    | true => exact absurd (.inl ⟨hb, by omega⟩) hu
  · exact Classical.byContradiction fun h => hu (.inr (.inl ⟨h, by omega, by omega⟩))
  · exact Classical.byContradiction fun h => hu (.inr (.inr (.inl ⟨h, by omega⟩)))
  · exact Classical.byContradiction fun h => hu (.inr (.inr (.inr (.inr (.inl ⟨List.length_pos_iff.2 h, h6⟩)))))
theorem has_in {v : Vu} {p : ByteArray} (hs : Srt v.keys) : ts.inK v.keys v.keys.length p = hasK v p := by
  unfold ts.inK
  cases h : hasK v p with
  | true =>
    have h1 := has_lt h
    have h2 : v.keys.getD (findK v p) ⟨#[]⟩ = p := by
      unfold hasK at h
      simp only [Bool.and_eq_true, decide_eq_true_eq] at h
      exact h.2
    rw [allN_no h1 (by rw [h2]; simp)]
    rfl
  | false =>
    have h3 : allN v.keys.length (fun i => decide (¬ v.keys.getD i ⟨#[]⟩ = p)) = true := allN_iff.2 fun k hk => by
      rw [decide_eq_true_eq]
      intro e
      rw [(rs.find_at hs hk e).2] at h
      cases h
    rw [h3]
    rfl
theorem idx_first {l : List ByteArray} {x : ByteArray} {m : Nat} (hm : m < l.length) (hx : x = l.getD m ⟨#[]⟩) (hn : ∀ i, i < m → ¬ x = l.getD i ⟨#[]⟩) : ∀ n k, m - k < n → k ≤ m → idxS l x k = m
  | 0, k, h, _ => by omega
  | n + 1, k, h, hk => by
    rcases Nat.lt_or_ge k m with h1 | h1
    · rw [idxS_next (by omega) (hn k h1)]
      exact idx_first hm hx hn n (k + 1) (by omega) h1
    · obtain rfl : k = m := by omega
      exact idxS_at hm hx
theorem find_le (v : Vu) (p : ByteArray) : findK v p ≤ v.keys.length := (bsr_le v.keys p (v.keys.length + 1) 0 v.keys.length (by omega) (by omega)).2
/-- The place of a key that was put into keys in order. -/
theorem idx_ins {v : Vu} {p : ByteArray} (hs : Srt v.keys) (h : hasK v p = false) : idxS (insL v.keys (findK v p) p) p 0 = (findK v p : Nat) := by
  have hm := find_le v p
  refine idx_first (m := findK v p) (by rw [insL_len _ _ _ hm]; omega) ?_ (fun i hi e => ?_) (findK v p + 1) 0 (by omega) (Nat.zero_le _)
  · rw [insL_at _ _ _ _ _ hm, if_neg (Nat.lt_irrefl _), if_pos rfl]
  · rw [insL_at _ _ _ _ _ hm, if_pos hi] at e
    rw [(rs.find_at hs (by omega) e.symm).2] at h
    cases h
theorem putK_yes0 (v : Vu) (p : ByteArray) (y : Vu) (hh : hasK v p = true) (hl : findK v p < v.items.length) : putK v p y = .mk 6 false 0 ⟨#[]⟩ (v.items.set (findK v p) y) v.keys := by
  have h1 := has_lt hh
  have h2 : v.keys.getD (findK v p) ⟨#[]⟩ = p := by
    unfold hasK at hh
    simp only [Bool.and_eq_true, decide_eq_true_eq] at hh
    exact hh.2
  unfold putK
  rw [hh, cond_true, pl_set _ _ _ hl, pl_set _ _ _ h1, set_self _ _ _ ⟨#[]⟩ h1 h2]
section
variable {κ : Type} {X : Cx κ}
/-- The one row that a call leaves may be told with less. -/
theorem SpH.row1 {f : FuncId} {ds : List (D κ)} {H : List (Nat × Ob κ)} {d : D κ} {c e n : Nat} {F G : Nat → Nat → D κ} (h : SpH X f ds H d [(c, .row e n F)]) (hg : ∀ i j, i < n → j < (X.T e).size → Dle X (F i j) (G i j)) : SpH X f ds H d [(c, .row e n G)] := by
  refine ⟨h.1, fun M β w vs hG hMG hM hl hr hp hb => (h.2 M β w vs hG hMG hM hl hr hp hb).mono fun e' w' ⟨x, M', β', hx, h1, h2, h3, h4, hr', ⟨h5, h6⟩, h7⟩ => ⟨x, M', β', hx, h1, h2, h3, h4, hr', ⟨fun l o hm => ?_, fun l o l' o' b c1 c2 hm hm' q1 q2 => ?_⟩, fun b hb2 => ?_⟩⟩
  · obtain ⟨rfl, rfl⟩ := Prod.mk.inj (List.mem_singleton.1 hm)
    obtain ⟨_, hk, ho⟩ := h5 _ _ List.mem_cons_self
    refine ⟨rfl, hk, ?_⟩
    rcases ho with ho | ⟨b, c, arr, a1, a2, a3, a4, a5, a6, a7, a8⟩
    · exact .inl ho
    · exact .inr ⟨b, c, arr, a1, a2, a3, a4, a5, a6, fun i j hi hj => ⟨(a7 i j hi hj).1, hg i j hi hj _ _ _ _ (a7 i j hi hj).2⟩, a8⟩
  · obtain ⟨rfl, rfl⟩ := Prod.mk.inj (List.mem_singleton.1 hm)
    obtain ⟨rfl, rfl⟩ := Prod.mk.inj (List.mem_singleton.1 hm')
    rfl
  · obtain ⟨l, o, c1, hm, hβ⟩ := hb2
    obtain ⟨rfl, rfl⟩ := Prod.mk.inj (List.mem_singleton.1 hm)
    exact h7 b ⟨_, _, c1, List.mem_cons_self, hβ⟩
end
section
variable (E : Env)
set_option maxRecDepth 100000
end
end se
end Go.Proofs.YtgdoelfajfjopaaGreatDoor
