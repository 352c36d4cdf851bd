/-
  Routes of a value: what is reckoned; numbers as text; own rows of strings. Settings as text, in plain words. conf.dayString, conf.word over data.
-/
import Derived.Test.YtemiaognopgnnaaGreatDoorN18
import Derived.Test.YtemiaognopgnnaaGreatDoorPV
import Derived.Test.YtemiaognopgnnaaGreatDoorQ7
import Derived.Test.YtemiaognopgnnaaGreatDoorQ8
import Derived.Test.YtemiaognopgnnaaGreatDoorShelf
import Derived.Lib.AppendIntMem
import Derived.Lib.ItoaLen
import Derived.Test.YtemiaognopgnnaaGreatDoorPn0
import Derived.Test.YtemiaognopgnnaaGreatDoorDays7
namespace Go.Proofs.YtemiaognopgnnaaGreatDoor
open Go.RowKit
set_option linter.unusedVariables false
set_option linter.unusedSimpArgs false
/-- strconv.Itoa's table. -/
def P10 (w : World) : Prop := Lib.TabIs Tryz.prog w "internal/strconv.uint64pow10" .u64 Lib.pow10Tab
theorem P10.lt {w : World} (h : P10 w) : 5 + 1 ≤ w.heap.size := by
  unfold P10 Lib.TabIs World.var? at h
  rw [show Tryz.prog.globalNamed "internal/strconv.uint64pow10" = some 5 by kernel_rfl] at h
  simp only [Option.bind_some] at h
  rcases Nat.lt_or_ge 5 w.heap.size with h' | h'
  · exact h'
  · simp [Array.getElem?_eq_none h'] at h
theorem P10.kp {B : Nat} {w w' : World} (h : P10 w) (hB : 5 < B) (hk : Kp B noS w w') : P10 w' := by
  unfold P10 Lib.TabIs World.var? at h ⊢
  rw [show Tryz.prog.globalNamed "internal/strconv.uint64pow10" = some 5 by kernel_rfl] at h ⊢
  simp only [Option.bind_some] at h ⊢
  rw [hk.block _ hB (fun h => h)]
  exact h
def decS (n : Int) : ByteArray := ⟨(Lib.itoa n).toArray⟩
theorem decS_size (n : Int) (h0 : -9223372036854775808 ≤ n) (h1 : n ≤ 9223372036854775807) : (decS n).size ≤ 21 := by
  have := Lib.itoa_length_le n h0 h1
  simpa [decS, ByteArray.size] using this
theorem decS_small {n : Nat} (h : n ≤ 1000000) : (decS n).size ≤ 21 := decS_size n (by omega) (by omega)
/-- A row of strings as data. -/
def rowS (a : List ByteArray) (i _ : Nat) : DD := dS (a.getD i ⟨#[]⟩)
theorem rowS_app (a b : List ByteArray) (i j : Nat) : (if i < a.length then rowS a i j else rowS b (i - a.length) j) = rowS (a ++ b) i j := by
  unfold rowS
  split
  · rename_i h; simp [List.getD, List.getElem?_append_left h]
  · rename_i h; simp [List.getD, List.getElem?_append_right (Nat.le_of_not_lt h)]
theorem encStrs_row (a : List ByteArray) : encStrs a = .sl 1 16 a.length (rowS a) := rfl
/-- A route with one more part. -/
def joinR (r p : ByteArray) : ByteArray := if r = ⟨#[]⟩ then p else r ++ ⟨#[46]⟩ ++ p
def partK (k : Int) (ks : List ByteArray) (i : Nat) : ByteArray := if k = 6 then ks.getD i ⟨#[]⟩ else decS i
mutual
def rts : Vu → ByteArray → List ByteArray
  | .mk k _ _ _ l ks, r => if l.length = 0 then [r] else rtsL k ks l 0 r
def rtsL (k : Int) (ks : List ByteArray) : List Vu → Nat → ByteArray → List ByteArray
  | [], _, _ => []
  | x :: l, i, r => rts x (joinR r (partK k ks i)) ++ rtsL k ks l (i + 1) r
end
theorem rts_eq (v : Vu) (r : ByteArray) : rts v r = if v.items.length = 0 then [r] else rtsL v.kind v.keys v.items 0 r := by
  cases v; simp only [rts, Vu.items, Vu.kind, Vu.keys] <;> rfl
/-- The routes through the first i items. -/
def rtsP (v : Vu) (r : ByteArray) : Nat → List ByteArray
  | 0 => []
  | i + 1 => rtsP v r i ++ rts (v.items.getD i .zero) (joinR r (partK v.kind v.keys i))
theorem rtsP_rest (v : Vu) (r : ByteArray) : ∀ i, i ≤ v.items.length → rtsP v r i ++ rtsL v.kind v.keys (v.items.drop i) i r = rtsL v.kind v.keys v.items 0 r
  | 0, _ => by simp [rtsP]
  | i + 1, h => by
    have ih := rtsP_rest v r i (by omega)
    rw [drop_cons v.items .zero i (by omega), rtsL] at ih
    rw [rtsP, List.append_assoc]
    exact ih
theorem rtsP_all (v : Vu) (r : ByteArray) (h : ¬ v.items.length = 0) : rtsP v r v.items.length = rts v r := by
  have := rtsP_rest v r v.items.length (Nat.le_refl _)
  rw [List.drop_of_length_le (Nat.le_refl _)] at this
  rw [rts_eq, if_neg h, ← this, rtsL, List.append_nil]
mutual
theorem rts_len : ∀ (v : Vu) (r : ByteArray), (rts v r).length ≤ cnt v
  | .mk k b i t l ks, r => by
    rw [rts_eq, cnt_eq]
    have := rtsL_len k ks l 0 r
    show (if l.length = 0 then [r] else rtsL k ks l 0 r).length ≤ cntL l + 1
    by_cases h : l.length = 0
    · rw [if_pos h]; simp
    · rw [if_neg h]; omega
theorem rtsL_len (k : Int) (ks : List ByteArray) : ∀ (l : List Vu) (i : Nat) (r : ByteArray), (rtsL k ks l i r).length ≤ cntL l
  | [], _, _ => by simp [rtsL]
  | x :: l, i, r => by
    have h1 := rts_len x (joinR r (partK k ks i))
    have h2 := rtsL_len k ks l (i + 1) r
    simp only [rtsL, List.length_append, cntL]
    omega
end
theorem rtsP_len (v : Vu) (r : ByteArray) : ∀ i, i ≤ v.items.length → (rtsP v r i).length ≤ cntL (v.items.take i)
  | 0, _ => by simp [rtsP, cntL]
  | i + 1, h => by
    have ih := rtsP_len v r i (by omega)
    have h1 := rts_len (v.items.getD i .zero) (joinR r (partK v.kind v.keys i))
    rw [take_snoc v.items .zero i (by omega), cntL_app, rtsP, List.length_append]
    omega
theorem joinR_size (r p : ByteArray) : (joinR r p).size ≤ r.size + 1 + p.size := by
  unfold joinR
  split
  · omega
  · rw [ByteArray.size_append, ByteArray.size_append]
    show r.size + 1 + p.size ≤ _
    omega
theorem partK_size {k : Int} {ks : List ByteArray} {i n : Nat} (hi : i ≤ 1000000) (hk : ∀ s ∈ ks, s.size ≤ n) (hn : 21 ≤ n) : (partK k ks i).size ≤ n := by
  unfold partK
  split
  · rcases Nat.lt_or_ge i ks.length with h | h
    · exact hk _ (getD_mem ks ⟨#[]⟩ i h)
    · have : ks.getD i ⟨#[]⟩ = ⟨#[]⟩ := by simp [List.getD, List.getElem?_eq_none h]
      rw [this]
      exact Nat.zero_le _
  · have := decS_small hi
    omega
section
variable (E : Env)
set_option maxRecDepth 100000
theorem itoa_sp (hP : ∀ w, E.G w → P10 w) (n : Int) : Sp (cx Tryz.prog mixed tyT_ok E) 75 [i64 n] (dS (decS n)) ∨ ¬ (-9223372036854775808 ≤ n ∧ n ≤ 9223372036854775807) := by
  by_cases h : -9223372036854775808 ≤ n ∧ n ≤ 9223372036854775807
  · refine .inl (Sp.of_v (vs := [.int .i64 n]) ⟨_, _, Tryz.func75, by kernel_rfl, rfl⟩ ?_ (fun w hG => (Tryz.strconv_Itoa n h.1 h.2 w (hP w hG)).mono fun e w' ⟨he, k, os, hw⟩ => ⟨he, by subst hw; exact Lib.below_grow _ w (Nat.le_refl _) k os⟩))
    have := decS_size n h.1 h.2
    exact decide_eq_true (by show (decS n).size ≤ _; unfold maxLen; omega)
  · exact .inr h
theorem itoaN_sp (hP : ∀ w, E.G w → P10 w) (n : Nat) (hn : n ≤ 1000000) : Sp (cx Tryz.prog mixed tyT_ok E) 75 [i64 n] (dS (decS n)) := (itoa_sp E hP n).resolve_right (fun h => h ⟨by omega, by omega⟩)
theorem row_strA (a : List ByteArray) (r : ByteArray) (i j : Nat) (hi : i < a.length + 1) (hj : j < 1) : Dle (cx Tryz.prog mixed tyT_ok E) (if i < a.length then rowS a i j else ([dS r] : List DD).getD ((i - a.length + 0) * 1 + j) .opq) (rowS (a ++ [r]) i j) := by
  obtain rfl : j = 0 := by omega
  split
  · rename_i h
    refine Dle.of_eq ?_
    unfold rowS
    simp [List.getD, List.getElem?_append_left h]
  · obtain rfl : i = a.length := by omega
    rw [Nat.sub_self]
    refine Dle.of_eq ?_
    unfold rowS
    simp [List.getD]
end
end Go.Proofs.YtemiaognopgnnaaGreatDoor
namespace Go.Proofs.YtemiaognopgnnaaGreatDoor
open Go.RowKit
set_option linter.unusedVariables false
set_option linter.unusedSimpArgs false
namespace pn
/-- A day's text. -/
noncomputable def dayT (n : Int) : ByteArray := open Classical in if h : ∃ y m d, days.Valid y m d ∧ cal.num y m d = n then strOfNums (days.dayText h.choose h.choose_spec.choose h.choose_spec.choose_spec.choose) else ⟨#[]⟩
/-- A word. -/
noncomputable def wordS (v : Vu) : ByteArray := if v.kind = 1 then (if v.b = true then (⟨#[121, 101, 115]⟩ : ByteArray) else (⟨#[110, 111]⟩ : ByteArray)) else if v.kind = 2 then decS v.i else if v.kind = 4 then dayT v.i else (⟨#[110, 105, 108]⟩ : ByteArray)
mutual
/-- A value as it is printed, in a line with ind at its beginning. -/
noncomputable def pvB (ind : List UInt8) : Vu → List UInt8
  | .mk k b i t l ks => if k = 3 then (quo t).data.toList else if k = 5 then [91] ++ pvF ind true l ++ [93] else if k = 6 then (if ks.length = 0 then [123, 125] else [123, 10] ++ prB (ind ++ [32, 32]) ks l ++ ind ++ [125]) else (wordS (.mk k b i t [] [])).data.toList
/-- Values with a blank between them. -/
noncomputable def pvF (ind : List UInt8) : Bool → List Vu → List UInt8
  | _, [] => []
  | f, x :: r => (if f then [] else [32]) ++ pvB ind x ++ pvF ind false r
/-- Entry lines. -/
noncomputable def prB (ind : List UInt8) : List ByteArray → List Vu → List UInt8
  | ks, x :: r => (match ks with | k :: _ => ind ++ k.data.toList ++ [32] ++ pvB ind x ++ [10] | [] => []) ++ prB ind ks.tail r
  | _, [] => []
end
theorem pvB_eq (ind : List UInt8) (v : Vu) : pvB ind v = if v.kind = 3 then (quo v.text).data.toList else if v.kind = 5 then [91] ++ pvF ind true v.items ++ [93] else if v.kind = 6 then (if v.keys.length = 0 then [123, 125] else [123, 10] ++ prB (ind ++ [32, 32]) v.keys v.items ++ ind ++ [125]) else (wordS v).data.toList := by
  cases v
  simp only [pvB, Vu.kind, Vu.text, Vu.items, Vu.keys]
  rfl
theorem pvF_snoc (ind : List UInt8) (l : List Vu) (x : Vu) (f : Bool) : pvF ind f (l ++ [x]) = pvF ind f l ++ ((if f = true ∧ l = [] then [] else [32]) ++ pvB ind x) := by
  induction l generalizing f with
  | nil => cases f <;> simp [pvF]
  | cons a l ih =>
    rw [List.cons_append, pvF, ih, pvF]
    simp
theorem pvF_take (ind : List UInt8) (l : List Vu) (k : Nat) (h : k < l.length) : pvF ind true (l.take (k + 1)) = pvF ind true (l.take k) ++ (if k = 0 then [] else [32]) ++ pvB ind (l.getD k .zero) := by
  rw [take_snoc l .zero k h, pvF_snoc, List.append_assoc]
  congr 2
  by_cases e : k = 0
  · subst e; simp
  · rw [if_neg e, if_neg (fun h2 => e ?_)]
    have := congrArg List.length h2.2
    rw [List.length_take, List.length_nil] at this
    omega
theorem prB_snoc (ind : List UInt8) : ∀ (ks : List ByteArray) (l : List Vu) (k : ByteArray) (x : Vu), ks.length = l.length → prB ind (ks ++ [k]) (l ++ [x]) = prB ind ks l ++ (ind ++ k.data.toList ++ [32] ++ pvB ind x ++ [10])
  | [], [], k, x, _ => by simp [prB]
  | a :: ks, y :: l, k, x, h => by
    have ih := prB_snoc ind ks l k x (by simpa using h)
    simp only [List.cons_append, prB, List.tail_cons, ih, List.append_assoc]
  | [], y :: l, _, _, h => by cases h
  | a :: ks, [], _, _, h => by cases h
theorem prB_take (ind : List UInt8) (ks : List ByteArray) (l : List Vu) (hl : ks.length = l.length) (k : Nat) (h : k < l.length) : prB ind (ks.take (k + 1)) (l.take (k + 1)) = prB ind (ks.take k) (l.take k) ++ (ind ++ (ks.getD k ⟨#[]⟩).data.toList ++ [32] ++ pvB ind (l.getD k .zero) ++ [10]) := by
  rw [take_snoc l .zero k h, take_snoc ks ⟨#[]⟩ k (by omega), prB_snoc]
  simp [hl]
theorem dayT_size (n : Int) : (dayT n).size ≤ 21 := by
  unfold dayT
  split
  · rename_i h
    unfold strOfNums days.dayText
    simp [ByteArray.size, days.dig4, days.dig2]
  · decide
theorem word_size (v : Vu) (h : -9223372036854775808 ≤ v.i ∧ v.i ≤ 9223372036854775807) : (wordS v).size ≤ 21 := by
  unfold wordS
  have h1 := decS_size v.i h.1 h.2
  have h2 := dayT_size v.i
  split
  · split <;> exact Nat.le_of_ble_eq_true rfl
  · split
    · omega
    · split
      · exact h2
      · exact Nat.le_of_ble_eq_true rfl
theorem quo_len (t : ByteArray) : (quo t).data.toList.length ≤ 100 * t.size + 2 := by
  have := quo_size t
  simpa using this
theorem word_len (v : Vu) (h : v.i64) : (wordS v).data.toList.length ≤ 21 := by
  have h1 : -9223372036854775808 ≤ v.i ∧ v.i ≤ 9223372036854775807 := by cases v; exact h.2.1
  have := word_size v h1
  simpa using this
/-- How long a printed value may be. -/
theorem mulC {C a b x y : Nat} (hx : x ≤ C * a) (hy : y ≤ C * b) : x + y ≤ C * (a + b) := by rw [Nat.mul_add]; omega
mutual
theorem pvB_len (ind : List UInt8) : ∀ v : Vu, v.i64 → (pvB ind v).length ≤ (ind.length + 3 * lvl v + 200) * v.wt
  | .mk k b i t l ks, hv => by
    simp only [pvB, Vu.wt, lvl]
    have hw := word_len (.mk k b i t [] []) ⟨hv.1, hv.2.1, trivial⟩
    have hq := quo_len t
    have h1 : (ind.length + 3 * (lvlL l + 1) + 200) * 1 ≤ (ind.length + 3 * (lvlL l + 1) + 200) * (t.size + 1 + Vu.wtL l + (ks.map fun s => s.size + 1).sum) := Nat.mul_le_mul_left _ (by omega)
    by_cases c1 : k = 3
    · rw [if_pos c1]
      have h2 : 200 * (t.size + 1) ≤ (ind.length + 3 * (lvlL l + 1) + 200) * (t.size + 1 + Vu.wtL l + (ks.map fun s => s.size + 1).sum) := Nat.mul_le_mul (by omega) (by omega)
      omega
    · rw [if_neg c1]
      by_cases c2 : k = 5
      · rw [if_pos c2]
        have h2 := pvF_len ind true l hv.2.2
        have h3 : (ind.length + 3 * lvlL l + 201) * Vu.wtL l ≤ (ind.length + 3 * (lvlL l + 1) + 200) * Vu.wtL l := Nat.mul_le_mul_right _ (by omega)
        have h4 : (ind.length + 3 * (lvlL l + 1) + 200) * (1 + Vu.wtL l) ≤ (ind.length + 3 * (lvlL l + 1) + 200) * (t.size + 1 + Vu.wtL l + (ks.map fun s => s.size + 1).sum) := Nat.mul_le_mul_left _ (by omega)
        rw [Nat.mul_add] at h4
        simp only [List.length_append, List.length_cons, List.length_nil]
        omega
      · rw [if_neg c2]
        by_cases c3 : k = 6
        · rw [if_pos c3]
          by_cases c4 : ks.length = 0
          · rw [if_pos c4]
            simp only [List.length_cons, List.length_nil]
            omega
          · rw [if_neg c4]
            have h2 := prB_len (ind ++ [32, 32]) ks l hv.2.2
            simp only [List.length_append, List.length_cons, List.length_nil] at h2 ⊢
            have h3 : (ind.length + (0 + 1 + 1) + 3 * lvlL l + 201) * (Vu.wtL l + (ks.map fun s => s.size + 1).sum) ≤ (ind.length + 3 * (lvlL l + 1) + 200) * (Vu.wtL l + (ks.map fun s => s.size + 1).sum) := Nat.mul_le_mul_right _ (by omega)
            have h4 : (ind.length + 3 * (lvlL l + 1) + 200) * (1 + (Vu.wtL l + (ks.map fun s => s.size + 1).sum)) ≤ (ind.length + 3 * (lvlL l + 1) + 200) * (t.size + 1 + Vu.wtL l + (ks.map fun s => s.size + 1).sum) := Nat.mul_le_mul_left _ (by omega)
            rw [Nat.mul_add] at h4
            omega
        · rw [if_neg c3]
          omega
theorem pvF_len (ind : List UInt8) : ∀ (f : Bool) (l : List Vu), Vu.i64L l → (pvF ind f l).length ≤ (ind.length + 3 * lvlL l + 201) * Vu.wtL l
  | _, [], _ => by simp [pvF]
  | f, x :: r, hv => by
    have h1 := pvB_len ind x hv.1
    have h2 := pvF_len ind false r hv.2
    have hw : 1 ≤ x.wt := by cases x; simp only [Vu.wt]; omega
    have h3 : (if f then ([] : List UInt8) else [32]).length ≤ 1 := by cases f <;> simp
    have h4 : (ind.length + 3 * lvl x + 200) * x.wt + 1 ≤ (ind.length + 3 * max (lvl x) (lvlL r) + 201) * x.wt := by
      have : (ind.length + 3 * lvl x + 200) * x.wt + 1 * x.wt ≤ (ind.length + 3 * max (lvl x) (lvlL r) + 201) * x.wt := by rw [← Nat.add_mul]; exact Nat.mul_le_mul_right _ (by omega)
      omega
    have h5 : (ind.length + 3 * lvlL r + 201) * Vu.wtL r ≤ (ind.length + 3 * max (lvl x) (lvlL r) + 201) * Vu.wtL r := Nat.mul_le_mul_right _ (by omega)
    simp only [pvF, List.length_append, lvlL, Vu.wtL]
    rw [Nat.mul_add]
    omega
theorem prB_len (ind : List UInt8) : ∀ (ks : List ByteArray) (l : List Vu), Vu.i64L l → (prB ind ks l).length ≤ (ind.length + 3 * lvlL l + 201) * (Vu.wtL l + (ks.map fun s => s.size + 1).sum)
  | ks, [], _ => by cases ks <;> simp [prB]
  | [], x :: r, hv => by
    have h2 := prB_len ind [] r hv.2
    have h5 : (ind.length + 3 * lvlL r + 201) * (Vu.wtL r + (([] : List ByteArray).map fun s => s.size + 1).sum) ≤ (ind.length + 3 * max (lvl x) (lvlL r) + 201) * (x.wt + Vu.wtL r + (([] : List ByteArray).map fun s => s.size + 1).sum) := Nat.mul_le_mul (by omega) (by simp)
    simp only [prB, lvlL, Vu.wtL, List.nil_append, List.tail_nil]
    omega
  | k :: ks, x :: r, hv => by
    have h1 := pvB_len ind x hv.1
    have h2 := prB_len ind ks r hv.2
    have hk : k.data.toList.length = k.size := by simp
    have h4 : (ind.length + 3 * lvl x + 200) * x.wt ≤ (ind.length + 3 * max (lvl x) (lvlL r) + 201) * x.wt := Nat.mul_le_mul_right _ (by omega)
    have h5 : (ind.length + 3 * lvlL r + 201) * (Vu.wtL r + (ks.map fun s => s.size + 1).sum) ≤ (ind.length + 3 * max (lvl x) (lvlL r) + 201) * (Vu.wtL r + (ks.map fun s => s.size + 1).sum) := Nat.mul_le_mul_right _ (by omega)
    have h6 : ind.length + k.size + 2 ≤ (ind.length + 3 * max (lvl x) (lvlL r) + 201) * (k.size + 1) := by
      have h7 : ind.length + 201 ≤ (ind.length + 201) * (k.size + 1) := by
        have := Nat.mul_le_mul_left (ind.length + 201) (show 1 ≤ k.size + 1 by omega)
        omega
      have h8 : (k.size + 1) ≤ (ind.length + 201) * (k.size + 1) := Nat.le_mul_of_pos_left _ (by omega)
      have h9 : (ind.length + 201) * (k.size + 1) = ind.length * (k.size + 1) + 201 * (k.size + 1) := Nat.add_mul _ _ _
      have h10 : ind.length ≤ ind.length * (k.size + 1) := Nat.le_mul_of_pos_right _ (by omega)
      have h11 : (ind.length + 201) * (k.size + 1) ≤ (ind.length + 3 * max (lvl x) (lvlL r) + 201) * (k.size + 1) := Nat.mul_le_mul_right _ (by omega)
      omega
    have e : Vu.wtL (x :: r) + ((k :: ks).map fun s => s.size + 1).sum = x.wt + (k.size + 1) + (Vu.wtL r + (ks.map fun s => s.size + 1).sum) := by
      simp only [Vu.wtL, List.map_cons, List.sum_cons]; omega
    rw [e, Nat.mul_add, Nat.mul_add]
    simp only [prB, List.length_append, List.tail_cons, lvlL, List.length_cons, List.length_nil]
    omega
end
end pn
end Go.Proofs.YtemiaognopgnnaaGreatDoor
namespace Go.Proofs.YtemiaognopgnnaaGreatDoor
open Go.RowKit
set_option linter.unusedVariables false
set_option linter.unusedSimpArgs false
namespace pn
open rp
theorem isdate (n : Int) (h0 : 0 ≤ n) (h1 : n ≤ 84005) (w : World) : ∃ y m d, days.Valid y m d ∧ cal.num y m d = n := by
  obtain ⟨e, w', fr, ⟨⟨y, m, d, _, hv, hn⟩, _⟩, _⟩ := days.date_any n w h0 h1 []
  exact ⟨y, m, d, hv, hn⟩
theorem dayT_at {n : Int} (h : ∃ y m d, days.Valid y m d ∧ cal.num y m d = n) : ∃ y m d, days.Valid y m d ∧ cal.num y m d = n ∧ dayT n = strOfNums (days.dayText y m d) := by
  refine ⟨h.choose, h.choose_spec.choose, h.choose_spec.choose_spec.choose, h.choose_spec.choose_spec.choose_spec.1, h.choose_spec.choose_spec.choose_spec.2, ?_⟩
  unfold dayT
  rw [dif_pos h]
section
variable (E : Env)
theorem dayString_sp (n : Int) (h0 : 0 ≤ n) (h1 : n ≤ 84005) : Sp (cx Tryz.prog mixed tyT_ok E) 164 [i64 n] (dS (dayT n)) :=
  Sp.of_v (vs := [.int .i64 n]) ⟨_, _, Tryz.func164, by kernel_rfl, rfl⟩ (decide_eq_true (by have := dayT_size n; unfold maxLen; omega)) fun w hG => by
    obtain ⟨y, m, d, hv, hn, ht⟩ := dayT_at (isdate n h0 h1 w)
    have := days.dayString_any y m d w hv
    rw [hn, ← ht] at this
    exact this
theorem stringOfDay_sp (n : Int) (h0 : 0 ≤ n) (h1 : n ≤ 84005) : Sp (cx Tryz.prog mixed tyT_ok E) 76 [i64 n] (dS (dayT n)) :=
  Sp.of_v (vs := [.int .i64 n]) ⟨_, _, Tryz.func76, by kernel_rfl, rfl⟩ (decide_eq_true (by have := dayT_size n; unfold maxLen; omega)) fun w hG => by
    obtain ⟨y, m, d, hv, hn, ht⟩ := dayT_at (isdate n h0 h1 w)
    have := days.stringOfDay_any y m d w hv
    rw [hn, ← ht] at this
    exact this
set_option maxRecDepth 100000
theorem word_sp (hP : ∀ w, E.G w → P10 w) (v : Vu) (hv : v.i64) (hd : v.kind = 4 → 0 ≤ v.i ∧ v.i ≤ 84005) : Sp (cx Tryz.prog mixed tyT_ok E) 116 [encV v] (dS (wordS v)) := by
  have hi : -9223372036854775808 ≤ v.i ∧ v.i ≤ 9223372036854775807 := by cases v; exact hv.2.1
  have h1 := (itoa_sp E hP v.i).resolve_right (fun h => h hi)
  by_cases h4 : v.kind = 4
  · have h2 := dayString_sp E v.i (hd h4).1 (hd h4).2
    refine Sp.body Tryz.func116 (by kernel_rfl) rfl (by kernel_rfl) (by kernel_rfl) (by kernel_rfl) ?_
    repeat' first
      | (refine codeW_cond rfl ?_; first | (refine condW_dec ?_ ?_ <;> intro _ <;> try (exfalso; omega)) | refine condW_not ?_ | (refine condW_bool ?_ ?_ <;> intro _ <;> try (exfalso; omega)))
      | (refine facW_intro ?_; intro _)
      | refine Or.inl ?_
      | ((conv => whnf); first | (refine condW_dec ?_ ?_ <;> intro _ <;> try (exfalso; omega)) | refine condW_not ?_ | (refine condW_bool ?_ ?_ <;> intro _ <;> try (exfalso; omega)) | (refine nbC_t (fun _ => ?_) ?_) | (refine nbC_f ?_ (fun _ => ?_)))
      | refine And.intro (by first | omega | (simp only [Int.toNat_natCast] at *; omega) | (simp only [Nat.reduceAdd, Int.cast_ofNat_Int, true_and, and_true]; omega)  | kernel_rfl) ?_
      | refine RegW.run ?_
      | refine ⟨_, h1, ?_⟩
      | refine ⟨_, h2, ?_⟩
      | fail
    all_goals first
      | (exfalso; omega)
      | exact Dle.s (by unfold wordS; grind)
      | trace_state
  · refine Sp.body Tryz.func116 (by kernel_rfl) rfl (by kernel_rfl) (by kernel_rfl) (by kernel_rfl) ?_
    repeat' first
      | (refine codeW_cond rfl ?_; first | (refine condW_dec ?_ ?_ <;> intro _ <;> try (exfalso; omega)) | refine condW_not ?_ | (refine condW_bool ?_ ?_ <;> intro _ <;> try (exfalso; omega)))
      | (refine facW_intro ?_; intro _)
      | refine Or.inl ?_
      | ((conv => whnf); first | (refine condW_dec ?_ ?_ <;> intro _ <;> try (exfalso; omega)) | refine condW_not ?_ | (refine condW_bool ?_ ?_ <;> intro _ <;> try (exfalso; omega)) | (refine nbC_t (fun _ => ?_) ?_) | (refine nbC_f ?_ (fun _ => ?_)))
      | refine And.intro (by first | omega | (simp only [Int.toNat_natCast] at *; omega) | (simp only [Nat.reduceAdd, Int.cast_ofNat_Int, true_and, and_true]; omega)  | kernel_rfl) ?_
      | refine RegW.run ?_
      | refine ⟨_, h1, ?_⟩
      | fail
    all_goals first
      | (exfalso; omega)
      | exact Dle.s (by unfold wordS; grind)
      | trace_state
end
end pn
end Go.Proofs.YtemiaognopgnnaaGreatDoor
