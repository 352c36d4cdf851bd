/-
  Settings as text, in plain words. conf.dayString, conf.word over data.
-/
import Derived.Test.YtemiaognopgnnaaGreatDoorPn0
import Derived.Test.YtemiaognopgnnaaGreatDoorM0
import Derived.Test.YtemiaognopgnnaaGreatDoorPV
import Derived.Test.YtemiaognopgnnaaGreatDoorDays7
namespace Go.Proofs.YtemiaognopgnnaaGreatDoor
open Go.RowKit
set_option linter.unusedVariables false
set_option linter.unusedSimpArgs false
namespace pn
/-- A day's text. -/
noncomputable def dayT (n : Int) : ByteArray := open Classical in if h : ∃ y m d, days.Valid y m d ∧ cal.num y m d = n then strOfNums (days.dayText h.choose h.choose_spec.choose h.choose_spec.choose_spec.choose) else ⟨#[]⟩
/-- A word. -/
noncomputable def wordS (v : Vu) : ByteArray := if v.kind = 1 then (if v.b = true then (⟨#[121, 101, 115]⟩ : ByteArray) else (⟨#[110, 111]⟩ : ByteArray)) else if v.kind = 2 then decS v.i else if v.kind = 4 then dayT v.i else (⟨#[110, 105, 108]⟩ : ByteArray)
mutual
/-- A value as it is printed, in a line with ind at its beginning. -/
noncomputable def pvB (ind : List UInt8) : Vu → List UInt8
  | .mk k b i t l ks => if k = 3 then (quo t).data.toList else if k = 5 then [91] ++ pvF ind true l ++ [93] else if k = 6 then (if ks.length = 0 then [123, 125] else [123, 10] ++ prB (ind ++ [32, 32]) ks l ++ ind ++ [125]) else (wordS (.mk k b i t [] [])).data.toList
/-- Values with a blank between them. -/
noncomputable def pvF (ind : List UInt8) : Bool → List Vu → List UInt8
  | _, [] => []
  | f, x :: r => (if f then [] else [32]) ++ pvB ind x ++ pvF ind false r
/-- Entry lines. -/
noncomputable def prB (ind : List UInt8) : List ByteArray → List Vu → List UInt8
  | ks, x :: r => (match ks with | k :: _ => ind ++ k.data.toList ++ [32] ++ pvB ind x ++ [10] | [] => []) ++ prB ind ks.tail r
  | _, [] => []
end
theorem pvB_eq (ind : List UInt8) (v : Vu) : pvB ind v = if v.kind = 3 then (quo v.text).data.toList else if v.kind = 5 then [91] ++ pvF ind true v.items ++ [93] else if v.kind = 6 then (if v.keys.length = 0 then [123, 125] else [123, 10] ++ prB (ind ++ [32, 32]) v.keys v.items ++ ind ++ [125]) else (wordS v).data.toList := by
  cases v
  simp only [pvB, Vu.kind, Vu.text, Vu.items, Vu.keys]
  rfl
theorem pvF_snoc (ind : List UInt8) (l : List Vu) (x : Vu) (f : Bool) : pvF ind f (l ++ [x]) = pvF ind f l ++ ((if f = true ∧ l = [] then [] else [32]) ++ pvB ind x) := by
  induction l generalizing f with
  | nil => cases f <;> simp [pvF]
  | cons a l ih =>
    rw [List.cons_append, pvF, ih, pvF]
    simp
theorem pvF_take (ind : List UInt8) (l : List Vu) (k : Nat) (h : k < l.length) : pvF ind true (l.take (k + 1)) = pvF ind true (l.take k) ++ (if k = 0 then [] else [32]) ++ pvB ind (l.getD k .zero) := by
  rw [take_snoc l .zero k h, pvF_snoc, List.append_assoc]
  congr 2
  by_cases e : k = 0
  · subst e; simp
  · rw [if_neg e, if_neg (fun h2 => e ?_)]
    have := congrArg List.length h2.2
    rw [List.length_take, List.length_nil] at this
    omega
theorem prB_snoc (ind : List UInt8) : ∀ (ks : List ByteArray) (l : List Vu) (k : ByteArray) (x : Vu), ks.length = l.length → prB ind (ks ++ [k]) (l ++ [x]) = prB ind ks l ++ (ind ++ k.data.toList ++ [32] ++ pvB ind x ++ [10])
  | [], [], k, x, _ => by simp [prB]
  | a :: ks, y :: l, k, x, h => by
    have ih := prB_snoc ind ks l k x (by simpa using h)
    simp only [List.cons_append, prB, List.tail_cons, ih, List.append_assoc]
  | [], y :: l, _, _, h => by cases h
  | a :: ks, [], _, _, h => by cases h
theorem prB_take (ind : List UInt8) (ks : List ByteArray) (l : List Vu) (hl : ks.length = l.length) (k : Nat) (h : k < l.length) : prB ind (ks.take (k + 1)) (l.take (k + 1)) = prB ind (ks.take k) (l.take k) ++ (ind ++ (ks.getD k ⟨#[]⟩).data.toList ++ [32] ++ pvB ind (l.getD k .zero) ++ [10]) := by
  rw [take_snoc l .zero k h, take_snoc ks ⟨#[]⟩ k (by omega), prB_snoc]
  simp [hl]
theorem dayT_size (n : Int) : (dayT n).size ≤ 21 := by
  unfold dayT
  split
  · rename_i h
    unfold strOfNums days.dayText
    simp [ByteArray.size, days.dig4, days.dig2]
  · decide
theorem word_size (v : Vu) (h : -9223372036854775808 ≤ v.i ∧ v.i ≤ 9223372036854775807) : (wordS v).size ≤ 21 := by
  unfold wordS
  have h1 := decS_size v.i h.1 h.2
  have h2 := dayT_size v.i
  split
  · split <;> exact Nat.le_of_ble_eq_true rfl
  · split
    · omega
    · split
      · exact h2
      · exact Nat.le_of_ble_eq_true rfl
theorem quo_len (t : ByteArray) : (quo t).data.toList.length ≤ 100 * t.size + 2 := by
  have := quo_size t
  simpa using this
theorem word_len (v : Vu) (h : v.i64) : (wordS v).data.toList.length ≤ 21 := by
  have h1 : -9223372036854775808 ≤ v.i ∧ v.i ≤ 9223372036854775807 := by cases v; exact h.2.1
  have := word_size v h1
  simpa using this
/-- How long a printed value may be. -/
theorem mulC {C a b x y : Nat} (hx : x ≤ C * a) (hy : y ≤ C * b) : x + y ≤ C * (a + b) := by rw [Nat.mul_add]; omega
mutual
theorem pvB_len (ind : List UInt8) : ∀ v : Vu, v.i64 → (pvB ind v).length ≤ (ind.length + 3 * lvl v + 200) * v.wt
  | .mk k b i t l ks, hv => by
    simp only [pvB, Vu.wt, lvl]
    have hw := word_len (.mk k b i t [] []) ⟨hv.1, hv.2.1, trivial⟩
    have hq := quo_len t
    have h1 : (ind.length + 3 * (lvlL l + 1) + 200) * 1 ≤ (ind.length + 3 * (lvlL l + 1) + 200) * (t.size + 1 + Vu.wtL l + (ks.map fun s => s.size + 1).sum) := Nat.mul_le_mul_left _ (by omega)
    by_cases c1 : k = 3
    · rw [if_pos c1]
      have h2 : 200 * (t.size + 1) ≤ (ind.length + 3 * (lvlL l + 1) + 200) * (t.size + 1 + Vu.wtL l + (ks.map fun s => s.size + 1).sum) := Nat.mul_le_mul (by omega) (by omega)
      omega
    · rw [if_neg c1]
      by_cases c2 : k = 5
      · rw [if_pos c2]
        have h2 := pvF_len ind true l hv.2.2
        have h3 : (ind.length + 3 * lvlL l + 201) * Vu.wtL l ≤ (ind.length + 3 * (lvlL l + 1) + 200) * Vu.wtL l := Nat.mul_le_mul_right _ (by omega)
        have h4 : (ind.length + 3 * (lvlL l + 1) + 200) * (1 + Vu.wtL l) ≤ (ind.length + 3 * (lvlL l + 1) + 200) * (t.size + 1 + Vu.wtL l + (ks.map fun s => s.size + 1).sum) := Nat.mul_le_mul_left _ (by omega)
        rw [Nat.mul_add] at h4
        simp only [List.length_append, List.length_cons, List.length_nil]
        omega
      · rw [if_neg c2]
        by_cases c3 : k = 6
        · rw [if_pos c3]
          by_cases c4 : ks.length = 0
          · rw [if_pos c4]
            simp only [List.length_cons, List.length_nil]
            omega
          · rw [if_neg c4]
            have h2 := prB_len (ind ++ [32, 32]) ks l hv.2.2
            simp only [List.length_append, List.length_cons, List.length_nil] at h2 ⊢
            have h3 : (ind.length + (0 + 1 + 1) + 3 * lvlL l + 201) * (Vu.wtL l + (ks.map fun s => s.size + 1).sum) ≤ (ind.length + 3 * (lvlL l + 1) + 200) * (Vu.wtL l + (ks.map fun s => s.size + 1).sum) := Nat.mul_le_mul_right _ (by omega)
            have h4 : (ind.length + 3 * (lvlL l + 1) + 200) * (1 + (Vu.wtL l + (ks.map fun s => s.size + 1).sum)) ≤ (ind.length + 3 * (lvlL l + 1) + 200) * (t.size + 1 + Vu.wtL l + (ks.map fun s => s.size + 1).sum) := Nat.mul_le_mul_left _ (by omega)
            rw [Nat.mul_add] at h4
            omega
        · rw [if_neg c3]
          omega
theorem pvF_len (ind : List UInt8) : ∀ (f : Bool) (l : List Vu), Vu.i64L l → (pvF ind f l).length ≤ (ind.length + 3 * lvlL l + 201) * Vu.wtL l
  | _, [], _ => by simp [pvF]
  | f, x :: r, hv => by
    have h1 := pvB_len ind x hv.1
    have h2 := pvF_len ind false r hv.2
    have hw : 1 ≤ x.wt := by cases x; simp only [Vu.wt]; omega
    have h3 : (if f then ([] : List UInt8) else [32]).length ≤ 1 := by cases f <;> simp
    have h4 : (ind.length + 3 * lvl x + 200) * x.wt + 1 ≤ (ind.length + 3 * max (lvl x) (lvlL r) + 201) * x.wt := by
      have : (ind.length + 3 * lvl x + 200) * x.wt + 1 * x.wt ≤ (ind.length + 3 * max (lvl x) (lvlL r) + 201) * x.wt := by rw [← Nat.add_mul]; exact Nat.mul_le_mul_right _ (by omega)
      omega
    have h5 : (ind.length + 3 * lvlL r + 201) * Vu.wtL r ≤ (ind.length + 3 * max (lvl x) (lvlL r) + 201) * Vu.wtL r := Nat.mul_le_mul_right _ (by omega)
    simp only [pvF, List.length_append, lvlL, Vu.wtL]
    rw [Nat.mul_add]
    omega
theorem prB_len (ind : List UInt8) : ∀ (ks : List ByteArray) (l : List Vu), Vu.i64L l → (prB ind ks l).length ≤ (ind.length + 3 * lvlL l + 201) * (Vu.wtL l + (ks.map fun s => s.size + 1).sum)
  | ks, [], _ => by cases ks <;> simp [prB]
  | [], x :: r, hv => by
    have h2 := prB_len ind [] r hv.2
    have h5 : (ind.length + 3 * lvlL r + 201) * (Vu.wtL r + (([] : List ByteArray).map fun s => s.size + 1).sum) ≤ (ind.length + 3 * max (lvl x) (lvlL r) + 201) * (x.wt + Vu.wtL r + (([] : List ByteArray).map fun s => s.size + 1).sum) := Nat.mul_le_mul (by omega) (by simp)
    simp only [prB, lvlL, Vu.wtL, List.nil_append, List.tail_nil]
    omega
  | k :: ks, x :: r, hv => by
    have h1 := pvB_len ind x hv.1
    have h2 := prB_len ind ks r hv.2
    have hk : k.data.toList.length = k.size := by simp
    have h4 : (ind.length + 3 * lvl x + 200) * x.wt ≤ (ind.length + 3 * max (lvl x) (lvlL r) + 201) * x.wt := Nat.mul_le_mul_right _ (by omega)
    have h5 : (ind.length + 3 * lvlL r + 201) * (Vu.wtL r + (ks.map fun s => s.size + 1).sum) ≤ (ind.length + 3 * max (lvl x) (lvlL r) + 201) * (Vu.wtL r + (ks.map fun s => s.size + 1).sum) := Nat.mul_le_mul_right _ (by omega)
    have h6 : ind.length + k.size + 2 ≤ (ind.length + 3 * max (lvl x) (lvlL r) + 201) * (k.size + 1) := by
      have h7 : ind.length + 201 ≤ (ind.length + 201) * (k.size + 1) := by
        have := Nat.mul_le_mul_left (ind.length + 201) (show 1 ≤ k.size + 1 by omega)
        omega
      have h8 : (k.size + 1) ≤ (ind.length + 201) * (k.size + 1) := Nat.le_mul_of_pos_left _ (by omega)
      have h9 : (ind.length + 201) * (k.size + 1) = ind.length * (k.size + 1) + 201 * (k.size + 1) := Nat.add_mul _ _ _
      have h10 : ind.length ≤ ind.length * (k.size + 1) := Nat.le_mul_of_pos_right _ (by omega)
      have h11 : (ind.length + 201) * (k.size + 1) ≤ (ind.length + 3 * max (lvl x) (lvlL r) + 201) * (k.size + 1) := Nat.mul_le_mul_right _ (by omega)
      omega
    have e : Vu.wtL (x :: r) + ((k :: ks).map fun s => s.size + 1).sum = x.wt + (k.size + 1) + (Vu.wtL r + (ks.map fun s => s.size + 1).sum) := by
      simp only [Vu.wtL, List.map_cons, List.sum_cons]; omega
    rw [e, Nat.mul_add, Nat.mul_add]
    simp only [prB, List.length_append, List.tail_cons, lvlL, List.length_cons, List.length_nil]
    omega
end
end pn
end Go.Proofs.YtemiaognopgnnaaGreatDoor
namespace Go.Proofs.YtemiaognopgnnaaGreatDoor
open Go.RowKit
set_option linter.unusedVariables false
set_option linter.unusedSimpArgs false
namespace pn
open rp
theorem isdate (n : Int) (h0 : 0 ≤ n) (h1 : n ≤ 84005) (w : World) : ∃ y m d, days.Valid y m d ∧ cal.num y m d = n := by
  obtain ⟨e, w', fr, ⟨⟨y, m, d, _, hv, hn⟩, _⟩, _⟩ := days.date_any n w h0 h1 []
  exact ⟨y, m, d, hv, hn⟩
theorem dayT_at {n : Int} (h : ∃ y m d, days.Valid y m d ∧ cal.num y m d = n) : ∃ y m d, days.Valid y m d ∧ cal.num y m d = n ∧ dayT n = strOfNums (days.dayText y m d) := by
  refine ⟨h.choose, h.choose_spec.choose, h.choose_spec.choose_spec.choose, h.choose_spec.choose_spec.choose_spec.1, h.choose_spec.choose_spec.choose_spec.2, ?_⟩
  unfold dayT
  rw [dif_pos h]
section
variable (E : Env)
theorem dayString_sp (n : Int) (h0 : 0 ≤ n) (h1 : n ≤ 84005) : Sp (cx Tryz.prog mixed tyT_ok E) 164 [i64 n] (dS (dayT n)) :=
  Sp.of_v (vs := [.int .i64 n]) ⟨_, _, Tryz.func164, by kernel_rfl, rfl⟩ (decide_eq_true (by have := dayT_size n; unfold maxLen; omega)) fun w hG => by
    obtain ⟨y, m, d, hv, hn, ht⟩ := dayT_at (isdate n h0 h1 w)
    have := days.dayString_any y m d w hv
    rw [hn, ← ht] at this
    exact this
theorem stringOfDay_sp (n : Int) (h0 : 0 ≤ n) (h1 : n ≤ 84005) : Sp (cx Tryz.prog mixed tyT_ok E) 76 [i64 n] (dS (dayT n)) :=
  Sp.of_v (vs := [.int .i64 n]) ⟨_, _, Tryz.func76, by kernel_rfl, rfl⟩ (decide_eq_true (by have := dayT_size n; unfold maxLen; omega)) fun w hG => by
    obtain ⟨y, m, d, hv, hn, ht⟩ := dayT_at (isdate n h0 h1 w)
    have := days.stringOfDay_any y m d w hv
    rw [hn, ← ht] at this
    exact this
set_option maxRecDepth 100000
theorem word_sp (hP : ∀ w, E.G w → P10 w) (v : Vu) (hv : v.i64) (hd : v.kind = 4 → 0 ≤ v.i ∧ v.i ≤ 84005) : Sp (cx Tryz.prog mixed tyT_ok E) 116 [encV v] (dS (wordS v)) := by
  have hi : -9223372036854775808 ≤ v.i ∧ v.i ≤ 9223372036854775807 := by cases v; exact hv.2.1
  have h1 := (itoa_sp E hP v.i).resolve_right (fun h => h hi)
  by_cases h4 : v.kind = 4
  · have h2 := dayString_sp E v.i (hd h4).1 (hd h4).2
    refine Sp.body Tryz.func116 (by kernel_rfl) rfl (by kernel_rfl) (by kernel_rfl) (by kernel_rfl) ?_
    repeat' first
      | (refine codeW_cond rfl ?_; first | (refine condW_dec ?_ ?_ <;> intro _ <;> try (exfalso; omega)) | refine condW_not ?_ | (refine condW_bool ?_ ?_ <;> intro _ <;> try (exfalso; omega)))
      | (refine facW_intro ?_; intro _)
      | refine Or.inl ?_
      | ((conv => whnf); first | (refine condW_dec ?_ ?_ <;> intro _ <;> try (exfalso; omega)) | refine condW_not ?_ | (refine condW_bool ?_ ?_ <;> intro _ <;> try (exfalso; omega)) | (refine nbC_t (fun _ => ?_) ?_) | (refine nbC_f ?_ (fun _ => ?_)))
      | refine And.intro (by first | omega | (simp only [Int.toNat_natCast] at *; omega) | (simp only [Nat.reduceAdd, Int.cast_ofNat_Int, true_and, and_true]; omega)  | kernel_rfl) ?_
      | refine RegW.run ?_
      | refine ⟨_, h1, ?_⟩
      | refine ⟨_, h2, ?_⟩
      | fail
    all_goals first
      | (exfalso; omega)
      | exact Dle.s (by unfold wordS; grind)
      | trace_state
  · refine Sp.body Tryz.func116 (by kernel_rfl) rfl (by kernel_rfl) (by kernel_rfl) (by kernel_rfl) ?_
    repeat' first
      | (refine codeW_cond rfl ?_; first | (refine condW_dec ?_ ?_ <;> intro _ <;> try (exfalso; omega)) | refine condW_not ?_ | (refine condW_bool ?_ ?_ <;> intro _ <;> try (exfalso; omega)))
      | (refine facW_intro ?_; intro _)
      | refine Or.inl ?_
      | ((conv => whnf); first | (refine condW_dec ?_ ?_ <;> intro _ <;> try (exfalso; omega)) | refine condW_not ?_ | (refine condW_bool ?_ ?_ <;> intro _ <;> try (exfalso; omega)) | (refine nbC_t (fun _ => ?_) ?_) | (refine nbC_f ?_ (fun _ => ?_)))
      | refine And.intro (by first | omega | (simp only [Int.toNat_natCast] at *; omega) | (simp only [Nat.reduceAdd, Int.cast_ofNat_Int, true_and, and_true]; omega)  | kernel_rfl) ?_
      | refine RegW.run ?_
      | refine ⟨_, h1, ?_⟩
      | fail
    all_goals first
      | (exfalso; omega)
      | exact Dle.s (by unfold wordS; grind)
      | trace_state
end
end pn
end Go.Proofs.YtemiaognopgnnaaGreatDoor
