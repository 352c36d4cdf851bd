/-
  Source sets of images: both sides.
-/
import Derived.Test.YtagggnjcpjodjaaDoorPb0
import Derived.Test.YtagggnjcpjodjaaDoorX0
import Derived.Test.YtagggnjcpjodjaaDoorX1
namespace Go.Proofs.YtagggnjcpjodjaaDoor
open Go.RowKit
set_option linter.unusedVariables false
set_option linter.unusedSimpArgs false
namespace srcset
def preS (s p : ByteArray) : Bool := decide (p.size ≤ s.size) && decide (s.extract 0 p.size = p)
structure Res where
  s : ByteArray
  e : Int
def encR (r : Res) : DD := .tup [dS r.s, i64 r.e]
def errR (e : Int) : Res := ⟨⟨#[]⟩, e⟩
def wideL (l : List Int) (k : Nat) : Bool := allN k (fun i => wideB (l.getD i 0))
open Classical in
/-- What a source set is. -/
noncomputable def srcR (a : ByteArray) (w : Int) (l : List Int) : Res :=
  if ¬ (preS a ⟨#[47]⟩ = true ∧ pathB (a.extract 1 a.size) = true) then errR 3
  else if 12 < l.length then errR 4
  else if ¬ (wideB w = true ∧ wideL l l.length = true) then errR 2
  else if ¬ ordB l l.length = true then errR 5
  else ⟨joinS (srcAll a w l) ⟨#[44, 32]⟩, 0⟩
theorem wide_iff {n : Int} : wideB n = true ↔ 1 ≤ n ∧ n ≤ 10000 := by unfold wideB; simp
theorem trim_one {a : ByteArray} (h : preS a ⟨#[47]⟩ = true) : (Lib.trimPrefix a.data.toList (⟨#[47]⟩ : ByteArray).data.toList).toArray = (a.extract 1 a.size).data := by
  unfold preS at h
  simp only [Bool.and_eq_true, decide_eq_true_eq] at h
  cases a with | mk d =>
  cases d with | mk l =>
  cases l with
  | nil => exact absurd h.1 (by decide)
  | cons b t =>
    have h2 : (⟨⟨b :: t⟩⟩ : ByteArray).extract 0 1 = ⟨#[47]⟩ := h.2
    have h3 : b = 47 := by simpa [ByteArray.extract, ByteArray.copySlice] using h2
    subst h3
    show (Lib.trimPrefix (47 :: t) [47]).toArray = _
    have h4 : (⟨⟨47 :: t⟩⟩ : ByteArray).size = t.length + 1 := rfl
    simp [Lib.trimPrefix, Lib.hasPrefix, List.isPrefixOf, ByteArray.extract, ByteArray.copySlice, h4]
theorem first_at (n : Int) : ∀ l : List Int, n ∈ l → ∃ m, m < l.length ∧ l.getD m 0 = n ∧ ∀ i, i < m → ¬ l.getD i 0 = n
  | [], h => by cases h
  | a :: l, h => by
    by_cases ha : a = n
    · exact ⟨0, by simp, by simpa using ha, fun i hi => by omega⟩
    · rcases List.mem_cons.1 h with h | h
      · exact absurd h.symm ha
      · obtain ⟨m, h1, h2, h3⟩ := first_at n l h
        refine ⟨m + 1, by simp; omega, by simpa using h2, fun i hi => ?_⟩
        match i, hi with
        | 0, _ => simpa using ha
        | i + 1, hi => simpa using h3 i (by omega)
theorem srcT_size {a : ByteArray} {n : Int} (ha : a.size ≤ 1000000) (hn : wideB n = true) : (srcT a n).size ≤ 1000100 := by
  have h := wide_iff.1 hn
  have := decS_size n (by omega) (by omega)
  unfold srcT
  simp only [ByteArray.size_append]
  show a.size + 3 + (decS n).size + 1 + (decS n).size + 1 ≤ _
  omega
theorem srcs_mem {a : ByteArray} {w : Int} {l : List Int} {k : Nat} {p : ByteArray} (h : p ∈ srcs a w l k) : ∃ n ∈ l, p = srcT a n := by
  unfold srcs at h
  obtain ⟨n, hn, rfl⟩ := List.mem_map.1 h
  exact ⟨n, List.mem_of_mem_take (List.mem_filter.1 hn).1, rfl⟩
theorem wide_mem {l : List Int} (h : wideL l l.length = true) {n : Int} (hn : n ∈ l) : wideB n = true := by
  obtain ⟨i, hi, rfl⟩ := List.getElem_of_mem hn
  have := allN_iff.1 h i hi
  simpa [List.getD, hi] using this
theorem srcAll_size {a : ByteArray} {w : Int} {l : List Int} (ha : a.size ≤ 1000000) (hl : l.length ≤ 12) (hw : wideB w = true) (hwl : wideL l l.length = true) : (srcAll a w l).length ≤ 13 ∧ (joinS (srcAll a w l) ⟨#[44, 32]⟩).size ≤ 100000000 := by
  have h1 := srcs_len a w l l.length
  have h2 : (srcAll a w l).length ≤ 13 := by
    unfold srcAll
    split
    · omega
    · rw [List.length_append]; simp; omega
  refine ⟨h2, Nat.le_trans (joinS_max (m := 1000102) fun p hp => ?_) ?_⟩
  · have : p.size ≤ 1000100 := by
      unfold srcAll at hp
      split at hp
      · obtain ⟨n, hn, rfl⟩ := srcs_mem hp
        exact srcT_size ha (wide_mem hwl hn)
      · rcases List.mem_append.1 hp with hp | hp
        · obtain ⟨n, hn, rfl⟩ := srcs_mem hp
          exact srcT_size ha (wide_mem hwl hn)
        · rw [List.mem_singleton.1 hp]
          exact srcT_size ha hw
    show p.size + 2 ≤ _
    omega
  · have := Nat.mul_le_mul_right 1000102 h2
    omega
theorem ordB_long {l : List Int} {k : Nat} (hk : k < l.length) (h0 : 0 < k) (h : l.getD k 0 ≤ l.getD (k - 1) 0) : ordB l l.length = false := allN_no hk (by simp only [Bool.or_eq_false_iff, decide_eq_false_iff_not]; omega)
section
variable (E : Env)
set_option maxRecDepth 100000
theorem innerPre_sp (s p : ByteArray) : Sp (cx Tryd.prog mixed tyT_ok E) 31 [dS s, dS p] (dB (preS s p)) := by
  refine Sp.body Tryd.func31 (by kernel_rfl) rfl (by kernel_rfl) (by kernel_rfl) (by kernel_rfl) ?_
  repeat' first
    | (refine facW_intro ?_; intro _)
    | refine Or.inl ?_
    | ((conv => whnf); first | (refine condW_dec ?_ ?_ <;> intro _) | refine condW_not ?_ | (refine condW_bool ?_ ?_ <;> intro _) | (refine nbC_t (fun _ => ?_) ?_) | (refine nbC_f ?_ (fun _ => ?_)))
    | refine And.intro (by first | omega | (simp only [Int.toNat_natCast] at *; omega) | (simp only [Nat.reduceAdd, Int.cast_ofNat_Int, true_and, and_true]; omega) | kernel_rfl) ?_
    | refine RegW.run ?_
    | fail
  all_goals first
    | exact Dle.bo (by unfold preS; grind)
    | exact Dle.bo (by unfold preS; simp only [Int.toNat_natCast] at *; grind)
    | trace_state
theorem pre_sp (s p : ByteArray) : Sp (cx Tryd.prog mixed tyT_ok E) 12 [dS s, dS p] (dB (preS s p)) := by
  have h := innerPre_sp E s p
  generalize preS s p = b at h
  refine Sp.body Tryd.func12 (by kernel_rfl) rfl (by kernel_rfl) (by kernel_rfl) (by kernel_rfl) ?_
  repeat' first
    | (refine facW_intro ?_; intro _)
    | refine Or.inl ?_
    | ((conv => whnf); first | (refine condW_dec ?_ ?_ <;> intro _) | refine condW_not ?_ | (refine condW_bool ?_ ?_ <;> intro _) | (refine nbC_t (fun _ => ?_) ?_) | (refine nbC_f ?_ (fun _ => ?_)))
    | refine And.intro (by first | omega | (simp only [Int.toNat_natCast] at *; omega) | (simp only [Nat.reduceAdd, Int.cast_ofNat_Int, true_and, and_true]; omega) | kernel_rfl) ?_
    | refine RegW.run ?_
    | refine ⟨_, h, ?_⟩
    | fail
  all_goals exact Dle.refl _ _
theorem trimP_sp {a : ByteArray} (h : preS a ⟨#[47]⟩ = true) : Sp (cx Tryd.prog mixed tyT_ok E) 17 [dS a, dS ⟨#[47]⟩] (dS (a.extract 1 a.size)) := by
  refine Sp.of_v2 (vs := [.string a, .string ⟨#[47]⟩]) ⟨_, _, Tryd.func17, by kernel_rfl, rfl⟩ ?_ ?_
  · intro h
    have := h (.string a) (by simp)
    have h2 : a.size ≤ maxLen := of_decide_eq_true this
    exact decide_eq_true (by rw [ByteArray.size_extract]; omega)
  · intro w _ _
    exact (Tryd.strings_TrimPrefix a ⟨#[47]⟩ w).mono fun e w' ⟨he, hb⟩ => ⟨by rw [he, trim_one h], hb ▸ Below.refl _ _⟩
theorem source_sp (hP : ∀ w, E.G w → P10 w) (a : ByteArray) (n : Int) (ha : a.size ≤ 1000000) (hn : wideB n = true) : Sp (cx Tryd.prog mixed tyT_ok E) 14 [dS a, i64 n] (dS (srcT a n)) := by
  obtain ⟨m, rfl⟩ := Int.eq_ofNat_of_zero_le (show 0 ≤ n by have := wide_iff.1 hn; omega)
  have hm := wide_iff.1 hn
  have h1 := itoaN_sp E hP m (by omega)
  have h2 := decS_size (m : Int) (by omega) (by omega)
  have e1 : (a ++ ⟨#[63, 119, 61]⟩).size = a.size + 3 := by rw [ByteArray.size_append]; rfl
  have e2 : (a ++ ⟨#[63, 119, 61]⟩ ++ decS m).size = a.size + 3 + (decS m).size := by rw [ByteArray.size_append, e1]
  have e3 : (a ++ ⟨#[63, 119, 61]⟩ ++ decS m ++ ⟨#[32]⟩).size = a.size + 3 + (decS m).size + 1 := by rw [ByteArray.size_append, e2]; rfl
  have e4 : (a ++ ⟨#[63, 119, 61]⟩ ++ decS m ++ ⟨#[32]⟩ ++ decS m).size = a.size + 3 + (decS m).size + 1 + (decS m).size := by rw [ByteArray.size_append, e3]
  have c1 : (⟨#[63, 119, 61]⟩ : ByteArray).size = 3 := rfl
  have c2 : (⟨#[32]⟩ : ByteArray).size = 1 := rfl
  have c3 : (⟨#[119]⟩ : ByteArray).size = 1 := rfl
  refine Sp.body Tryd.func14 (by kernel_rfl) rfl (by kernel_rfl) (by kernel_rfl) (by kernel_rfl) ?_
  repeat' first
    | (refine facW_intro ?_; intro _)
    | refine Or.inl ?_
    | ((conv => whnf); first | (refine condW_dec ?_ ?_ <;> intro _ <;> try (exfalso; omega)) | refine condW_not ?_ | (refine condW_bool ?_ ?_ <;> intro _ <;> try (exfalso; omega)) | (refine nbC_t (fun _ => ?_) ?_) | (refine nbC_f ?_ (fun _ => ?_)))
    | refine And.intro (by first | omega | (simp only [Int.toNat_natCast] at *; omega) | (simp only [Nat.reduceAdd, Int.cast_ofNat_Int, true_and, and_true]; omega) | kernel_rfl) ?_
    | refine RegW.run ?_
    | refine ⟨_, h1, ?_⟩
    | fail
  all_goals first
    | exact Dle.refl _ _
    | trace_state
theorem indexI_sp (l : List Int) (n : Int) (hl : l.length ≤ 100000000000000) : Sp (cx Tryd.prog mixed tyT_ok E) 20 [.sl 1 8 l.length (fun i _ => i64 (l.getD i 0)), i64 n] (dB (decide (n ∈ l))) := by
  have key : ∃ r : Int, Sp (cx Tryd.prog mixed tyT_ok E) 42 [.sl 1 8 l.length (fun i _ => i64 (l.getD i 0)), i64 n] (i64 r) ∧ (0 ≤ r ↔ n ∈ l) := by
    by_cases hm : n ∈ l
    · obtain ⟨m, hm1, hm2, hm3⟩ := first_at n l hm
      refine ⟨m, ?_, ⟨fun _ => hm, fun _ => by omega⟩⟩
      refine Sp.body Tryd.func42 (by kernel_rfl) rfl (by kernel_rfl) (by kernel_rfl) (by kernel_rfl) ?_
      repeat' first
        | (refine facW_intro ?_; intro _)
        | refine Or.inl ?_
        | ((conv => whnf); first | (refine condW_dec ?_ ?_ <;> intro _ <;> try (exfalso; omega)) | refine condW_not ?_ | (refine condW_bool ?_ ?_ <;> intro _ <;> try (exfalso; omega)) | (refine nbC_t (fun _ => ?_) ?_) | (refine nbC_f ?_ (fun _ => ?_)))
        | refine And.intro (by first | omega | (simp only [Int.toNat_natCast] at *; omega) | (simp only [Nat.reduceAdd, Int.cast_ofNat_Int, true_and, and_true]; omega) | kernel_rfl) ?_
        | refine RegW.run ?_
        | fail
      refine ⟨Nat, fun k => [(8, i64 k)], fun k => [], [], fun k => [], fun k => k ≤ m, fun k => l.length - k, ⟨0, by omega, ⟨[], ⟨by kernel_rfl, by kernel_rfl, by kernel_rfl, by kernel_rfl, by kernel_rfl, by kernel_rfl, by kernel_rfl⟩, (by repeat' first | exact trivial | exact rfl | kernel_rfl | exact Dle.of_eq rfl | exact MLe.of_eq rfl | exact Dle.i (by omega) | exact Dle.i (by simp only [Int.toNat_natCast] at *; omega) | exact Dle.nil | exact Dle.rc Dle.nil | exact Option.some_ne_none _ | exact Or.inl rfl | exact Or.inr trivial | omega | (simp only [Int.toNat_natCast] at *; omega) | (intro _ _ _ _; exact Dle.of_eq rfl) | refine And.intro ?_ ?_)⟩⟩, fun k hk => ?_⟩
      have hk : k ≤ m := hk
      by_cases hkm : k = m
      · subst hkm
        repeat' first
          | (refine facW_intro ?_; intro _)
          | refine Or.inl ?_
          | ((conv => whnf); first | (refine condW_dec ?_ ?_ <;> intro _ <;> try (exfalso; omega)) | refine condW_not ?_ | (refine condW_bool ?_ ?_ <;> intro _ <;> try (exfalso; omega)) | (refine nbC_t (fun _ => ?_) ?_) | (refine nbC_f ?_ (fun _ => ?_)))
          | refine And.intro (by first | omega | (simp only [Int.toNat_natCast] at *; omega) | (simp only [Nat.reduceAdd, Int.cast_ofNat_Int, true_and, and_true]; omega) | kernel_rfl) ?_
          | refine RegW.run ?_
          | fail
        all_goals first
          | exact Dle.refl _ _
          | (exfalso; rename_i h; exact h hm2.symm)
          | (exfalso; rename_i h; exact h hm2)
          | trace_state
      · have hne := hm3 k (by omega)
        repeat' first
          | (refine facW_intro ?_; intro _)
          | refine Or.inl ?_
          | ((conv => whnf); first | (refine condW_dec ?_ ?_ <;> intro _ <;> try (exfalso; omega)) | refine condW_not ?_ | (refine condW_bool ?_ ?_ <;> intro _ <;> try (exfalso; omega)) | (refine nbC_t (fun _ => ?_) ?_) | (refine nbC_f ?_ (fun _ => ?_)))
          | refine And.intro (by first | omega | (simp only [Int.toNat_natCast] at *; omega) | (simp only [Nat.reduceAdd, Int.cast_ofNat_Int, true_and, and_true]; omega) | kernel_rfl) ?_
          | refine RegW.run ?_
          | fail
        all_goals first
          | exact ⟨k + 1, by omega, ⟨[], ⟨by kernel_rfl, by kernel_rfl, by kernel_rfl, by kernel_rfl, by kernel_rfl, by kernel_rfl, by kernel_rfl⟩, (by repeat' first | exact trivial | exact rfl | kernel_rfl | exact Dle.of_eq rfl | exact MLe.of_eq rfl | exact Dle.i (by omega) | exact Dle.i (by simp only [Int.toNat_natCast] at *; omega) | exact Dle.nil | exact Dle.rc Dle.nil | exact Option.some_ne_none _ | exact Or.inl rfl | exact Or.inr trivial | omega | (simp only [Int.toNat_natCast] at *; omega) | (intro _ _ _ _; exact Dle.of_eq rfl) | refine And.intro ?_ ?_)⟩, by first | omega | (dsimp only; omega)⟩
          | (exfalso; rename_i h; exact hne h)
          | (exfalso; rename_i h; exact hne h.symm)
          | trace_state
    · have hne : ∀ k, k < l.length → ¬ l.getD k 0 = n := fun k hk e => hm (e ▸ getD_mem l 0 k hk)
      refine ⟨-1, ?_, ⟨fun h => by omega, fun h => absurd h hm⟩⟩
      refine Sp.body Tryd.func42 (by kernel_rfl) rfl (by kernel_rfl) (by kernel_rfl) (by kernel_rfl) ?_
      repeat' first
        | (refine facW_intro ?_; intro _)
        | refine Or.inl ?_
        | ((conv => whnf); first | (refine condW_dec ?_ ?_ <;> intro _ <;> try (exfalso; omega)) | refine condW_not ?_ | (refine condW_bool ?_ ?_ <;> intro _ <;> try (exfalso; omega)) | (refine nbC_t (fun _ => ?_) ?_) | (refine nbC_f ?_ (fun _ => ?_)))
        | refine And.intro (by first | omega | (simp only [Int.toNat_natCast] at *; omega) | (simp only [Nat.reduceAdd, Int.cast_ofNat_Int, true_and, and_true]; omega) | kernel_rfl) ?_
        | refine RegW.run ?_
        | fail
      refine ⟨Nat, fun k => [(8, i64 k)], fun k => [], [], fun k => [], fun k => k ≤ l.length, fun k => l.length - k, ⟨0, by omega, ⟨[], ⟨by kernel_rfl, by kernel_rfl, by kernel_rfl, by kernel_rfl, by kernel_rfl, by kernel_rfl, by kernel_rfl⟩, (by repeat' first | exact trivial | exact rfl | kernel_rfl | exact Dle.of_eq rfl | exact MLe.of_eq rfl | exact Dle.i (by omega) | exact Dle.i (by simp only [Int.toNat_natCast] at *; omega) | exact Dle.nil | exact Dle.rc Dle.nil | exact Option.some_ne_none _ | exact Or.inl rfl | exact Or.inr trivial | omega | (simp only [Int.toNat_natCast] at *; omega) | (intro _ _ _ _; exact Dle.of_eq rfl) | refine And.intro ?_ ?_)⟩⟩, fun k hk => ?_⟩
      have hk : k ≤ l.length := hk
      by_cases hlt : k < l.length
      · have hne := hne k hlt
        repeat' first
          | (refine facW_intro ?_; intro _)
          | refine Or.inl ?_
          | ((conv => whnf); first | (refine condW_dec ?_ ?_ <;> intro _ <;> try (exfalso; omega)) | refine condW_not ?_ | (refine condW_bool ?_ ?_ <;> intro _ <;> try (exfalso; omega)) | (refine nbC_t (fun _ => ?_) ?_) | (refine nbC_f ?_ (fun _ => ?_)))
          | refine And.intro (by first | omega | (simp only [Int.toNat_natCast] at *; omega) | (simp only [Nat.reduceAdd, Int.cast_ofNat_Int, true_and, and_true]; omega) | kernel_rfl) ?_
          | refine RegW.run ?_
          | fail
        all_goals first
          | exact ⟨k + 1, by omega, ⟨[], ⟨by kernel_rfl, by kernel_rfl, by kernel_rfl, by kernel_rfl, by kernel_rfl, by kernel_rfl, by kernel_rfl⟩, (by repeat' first | exact trivial | exact rfl | kernel_rfl | exact Dle.of_eq rfl | exact MLe.of_eq rfl | exact Dle.i (by omega) | exact Dle.i (by simp only [Int.toNat_natCast] at *; omega) | exact Dle.nil | exact Dle.rc Dle.nil | exact Option.some_ne_none _ | exact Or.inl rfl | exact Or.inr trivial | omega | (simp only [Int.toNat_natCast] at *; omega) | (intro _ _ _ _; exact Dle.of_eq rfl) | refine And.intro ?_ ?_)⟩, by first | omega | (dsimp only; omega)⟩
          | (exfalso; rename_i h; exact hne h)
          | (exfalso; rename_i h; exact hne h.symm)
          | trace_state
      · repeat' first
          | (refine facW_intro ?_; intro _)
          | refine Or.inl ?_
          | ((conv => whnf); first | (refine condW_dec ?_ ?_ <;> intro _ <;> try (exfalso; omega)) | refine condW_not ?_ | (refine condW_bool ?_ ?_ <;> intro _ <;> try (exfalso; omega)) | (refine nbC_t (fun _ => ?_) ?_) | (refine nbC_f ?_ (fun _ => ?_)))
          | refine And.intro (by first | omega | (simp only [Int.toNat_natCast] at *; omega) | (simp only [Nat.reduceAdd, Int.cast_ofNat_Int, true_and, and_true]; omega) | kernel_rfl) ?_
          | refine RegW.run ?_
          | fail
        all_goals first
          | exact Dle.refl _ _
          | trace_state
  obtain ⟨r, h1, h2⟩ := key
  refine Sp.body Tryd.func20 (by kernel_rfl) rfl (by kernel_rfl) (by kernel_rfl) (by kernel_rfl) ?_
  repeat' first
    | (refine facW_intro ?_; intro _)
    | refine Or.inl ?_
    | ((conv => whnf); first | (refine condW_dec ?_ ?_ <;> intro _ <;> try (exfalso; omega)) | refine condW_not ?_ | (refine condW_bool ?_ ?_ <;> intro _ <;> try (exfalso; omega)) | (refine nbC_t (fun _ => ?_) ?_) | (refine nbC_f ?_ (fun _ => ?_)))
    | refine And.intro (by first | omega | (simp only [Int.toNat_natCast] at *; omega) | (simp only [Nat.reduceAdd, Int.cast_ofNat_Int, true_and, and_true]; omega) | kernel_rfl) ?_
    | refine RegW.run ?_
    | refine ⟨_, h1, ?_⟩
    | fail
  all_goals first
    | exact Dle.bo (by rw [Bool.eq_iff_iff, decide_eq_true_eq, decide_eq_true_eq]; exact h2)
    | exact Dle.bo (by simp only [h2])
    | trace_state
theorem add_sp (hP : ∀ w, E.G w → P10 w) (a : ByteArray) (n : Int) (q : List ByteArray) (ha : a.size ≤ 1000000) (hn : wideB n = true) (hq : q.length ≤ 1000000) :
    SpH (cx Tryd.prog mixed tyT_ok E) 18 [i64 n, .ptr 1012 0, .ptr 1003 0] [(1012, .cells [.own 2000 1 0 q.length]), (2000, .row 9 q.length (rowS q)), (1003, .cells [dS a])] (.tup []) [(1012, .cells [.own 16 1 0 (q ++ [srcT a n]).length]), (1003, .cells [dS a]), (16, .row 9 (q ++ [srcT a n]).length (rowS (q ++ [srcT a n])))] := by
  obtain ⟨m, rfl⟩ := Int.eq_ofNat_of_zero_le (show 0 ≤ n by have := wide_iff.1 hn; omega)
  have hm := wide_iff.1 hn
  have h1 := itoaN_sp E hP m (by omega)
  have h2 := decS_size (m : Int) (by omega) (by omega)
  have e1 : (a ++ ⟨#[63, 119, 61]⟩).size = a.size + 3 := by rw [ByteArray.size_append]; rfl
  have e2 : (a ++ ⟨#[63, 119, 61]⟩ ++ decS m).size = a.size + 3 + (decS m).size := by rw [ByteArray.size_append, e1]
  have e3 : (a ++ ⟨#[63, 119, 61]⟩ ++ decS m ++ ⟨#[32]⟩).size = a.size + 3 + (decS m).size + 1 := by rw [ByteArray.size_append, e2]; rfl
  have e4 : (a ++ ⟨#[63, 119, 61]⟩ ++ decS m ++ ⟨#[32]⟩ ++ decS m).size = a.size + 3 + (decS m).size + 1 + (decS m).size := by rw [ByteArray.size_append, e3]
  have c1 : (⟨#[63, 119, 61]⟩ : ByteArray).size = 3 := rfl
  have c2 : (⟨#[32]⟩ : ByteArray).size = 1 := rfl
  have c3 : (⟨#[119]⟩ : ByteArray).size = 1 := rfl
  have e5 : q.length + 1 = (q ++ [srcT a m]).length := by simp
  refine SpH.body Tryd.func18 (by kernel_rfl) rfl (by kernel_rfl) (by kernel_rfl) (by kernel_rfl) ?_
  repeat' first
    | (refine facW_intro ?_; intro _)
    | refine Or.inl ?_
    | ((conv => whnf); first | (refine condW_dec ?_ ?_ <;> intro _ <;> try (exfalso; omega)) | refine condW_not ?_ | (refine condW_bool ?_ ?_ <;> intro _ <;> try (exfalso; omega)) | (refine nbC_t (fun _ => ?_) ?_) | (refine nbC_f ?_ (fun _ => ?_)))
    | refine And.intro (by first | omega | (simp only [Int.toNat_natCast] at *; omega) | (simp only [Nat.reduceAdd, Int.cast_ofNat_Int, true_and, and_true]; omega) | kernel_rfl) ?_
    | refine RegW.run ?_
    | refine ⟨_, h1, ?_⟩
    | fail
  exact ⟨[(1012, .cells [.own 16 1 0 (q ++ [srcT a m]).length]), (1003, .cells [dS a])], [(16, 9, (q ++ [srcT a m]).length, rowS (q ++ [srcT a m]))], rfl, ⟨[(16, some 16)], ⟨by kernel_rfl, by kernel_rfl, by kernel_rfl, by kernel_rfl, by kernel_rfl, by kernel_rfl, by kernel_rfl⟩, (by repeat' first | (exact e5) | exact trivial | exact rfl | kernel_rfl | exact Dle.of_eq rfl | exact MLe.of_eq rfl | exact Dle.i (by omega) | exact Dle.i (by simp only [Int.toNat_natCast] at *; omega) | exact Dle.nil | exact Dle.rc Dle.nil | exact Option.some_ne_none _ | exact Or.inl rfl | exact Or.inr trivial | omega | (simp only [Int.toNat_natCast] at *; omega) | (intro _ _ _ _; exact Dle.of_eq rfl) | (intro i j hi hj; exact row_strA E q (srcT a m) i j (by omega) hj) | refine And.intro ?_ ?_)⟩, rfl⟩
theorem sourceSet_sp (hP : ∀ w, E.G w → P10 w) (hML : ∀ w, E.G w → ML w) (a : ByteArray) (w : Int) (l : List Int) (hll : l.length ≤ 100000000000000) : Sp (cx Tryd.prog mixed tyT_ok E) 6 [dS a, i64 w, .sl 1 8 l.length (fun i _ => i64 (l.getD i 0))] (encR (srcR a w l)) := by
  have h1 := pre_sp E a ⟨#[47]⟩
  have h2 := a_isPath_sp E hML (a.extract 1 a.size)
  obtain ⟨r, hr⟩ : ∃ r, r = srcR a w l := ⟨_, rfl⟩
  rw [← hr]
  unfold srcR at hr
  have hend : ∀ (e : Res) (c : Int), e = errR c → Dle (cx Tryd.prog mixed tyT_ok E) (.tup [dS ⟨#[]⟩, i64 c]) (encR e) := fun e c h => by rw [h]; exact Dle.refl _ _
  by_cases hp : preS a ⟨#[47]⟩ = true
  · have hlen : 1 ≤ a.size := by unfold preS at hp; simp only [Bool.and_eq_true, decide_eq_true_eq] at hp; exact hp.1
    rw [hp] at h1
    by_cases hq : pathB (a.extract 1 a.size) = true
    · rw [if_neg (fun h => h ⟨hp, hq⟩)] at hr
      rw [hq] at h2
      have ha : a.size ≤ 1000000 := by
        have : ¬ (200 : Int) < (a.extract 1 a.size).size := fun h => by rw [path_long h] at hq; cases hq
        rw [ByteArray.size_extract] at this
        omega
      by_cases hL : 12 < l.length
      · rw [if_pos hL] at hr
        refine Sp.body Tryd.func6 (by kernel_rfl) rfl (by kernel_rfl) (by kernel_rfl) (by kernel_rfl) ?_
        repeat' first
          | (refine facW_intro ?_; intro _)
          | refine Or.inl ?_
          | ((conv => whnf); first | (refine condW_dec ?_ ?_ <;> intro _ <;> try (exfalso; omega)) | refine condW_not ?_ | (refine condW_bool ?_ ?_ <;> intro _ <;> try (exfalso; omega)) | (refine nbC_t (fun _ => ?_) ?_) | (refine nbC_f ?_ (fun _ => ?_)))
          | refine And.intro (by first | omega | (simp only [Int.toNat_natCast] at *; omega) | (simp only [Nat.reduceAdd, Int.cast_ofNat_Int, true_and, and_true]; omega) | kernel_rfl) ?_
          | refine RegW.run ?_
          | refine ⟨_, h1, ?_⟩
          | refine ⟨_, h2, ?_⟩
          | fail
        all_goals first
          | (exfalso; rename_i h; exact h rfl)
          | exact hend _ _ hr
          | trace_state
      · rw [if_neg hL] at hr
        have hB : ¬ (wideB w = true ∧ wideL l l.length = true) → r = errR 2 := fun h => hr.trans (if_pos h)
        have hO : wideB w = true → wideL l l.length = true → ordB l l.length = false → r = errR 5 := fun h3 h4 h5 => hr.trans ((if_neg (fun h => h ⟨h3, h4⟩)).trans (if_pos (by rw [h5]; decide)))
        have hG : wideB w = true → wideL l l.length = true → ordB l l.length = true → r = ⟨joinS (srcAll a w l) ⟨#[44, 32]⟩, 0⟩ := fun h3 h4 h5 => hr.trans ((if_neg (fun h => h ⟨h3, h4⟩)).trans (if_neg (fun h => h h5)))
        clear hr
        refine Sp.body Tryd.func6 (by kernel_rfl) rfl (by kernel_rfl) (by kernel_rfl) (by kernel_rfl) ?_
        repeat' first
          | (refine facW_intro ?_; intro _)
          | refine Or.inl ?_
          | ((conv => whnf); first | (refine condW_dec ?_ ?_ <;> intro _ <;> try (exfalso; omega)) | refine condW_not ?_ | (refine condW_bool ?_ ?_ <;> intro _ <;> try (exfalso; omega)) | (refine nbC_t (fun _ => ?_) ?_) | (refine nbC_f ?_ (fun _ => ?_)))
          | refine And.intro (by first | omega | (simp only [Int.toNat_natCast] at *; omega) | (simp only [Nat.reduceAdd, Int.cast_ofNat_Int, true_and, and_true]; omega) | kernel_rfl) ?_
          | refine RegW.run ?_
          | refine ⟨_, h1, ?_⟩
          | refine ⟨_, h2, ?_⟩
          | fail
        all_goals try (exfalso; rename_i h; exact h rfl)
        all_goals try exact hend _ _ (hB (fun h => by have := wide_iff.1 h.1; omega))
        refine ⟨Nat, fun k => [(34, i64 k)], fun k => [], [], fun k => [], fun k => k ≤ l.length ∧ wideL l k = true, fun k => l.length - k, ⟨0, ⟨by omega, rfl⟩, ⟨[], ⟨by kernel_rfl, by kernel_rfl, by kernel_rfl, by kernel_rfl, by kernel_rfl, by kernel_rfl, by kernel_rfl⟩, (by repeat' first | exact trivial | exact rfl | kernel_rfl | exact Dle.of_eq rfl | exact MLe.of_eq rfl | exact Dle.i (by omega) | exact Dle.i (by simp only [Int.toNat_natCast] at *; omega) | exact Dle.nil | exact Dle.rc Dle.nil | exact Option.some_ne_none _ | exact Or.inl rfl | exact Or.inr trivial | omega | (simp only [Int.toNat_natCast] at *; omega) | (intro _ _ _ _; exact Dle.of_eq rfl) | refine And.intro ?_ ?_)⟩⟩, fun k hk => ?_⟩
        obtain ⟨hk, hwl⟩ := hk
        by_cases hlt : k < l.length
        · have hw3 := @wide_iff (l.getD k 0)
          by_cases hwk : wideB (l.getD k 0) = true
          · have hw4 : 1 ≤ l.getD ((k : Int)).toNat 0 ∧ l.getD ((k : Int)).toNat 0 ≤ 10000 := hw3.1 hwk
            repeat' first
              | (refine facW_intro ?_; intro _)
              | refine Or.inl ?_
              | ((conv => whnf); first | (refine condW_dec ?_ ?_ <;> intro _ <;> try (exfalso; omega)) | refine condW_not ?_ | (refine condW_bool ?_ ?_ <;> intro _ <;> try (exfalso; omega)) | (refine nbC_t (fun _ => ?_) ?_) | (refine nbC_f ?_ (fun _ => ?_)))
              | refine And.intro (by first | omega | (simp only [Int.toNat_natCast] at *; omega) | (simp only [Nat.reduceAdd, Int.cast_ofNat_Int, true_and, and_true]; omega) | kernel_rfl) ?_
              | refine RegW.run ?_
              | fail
            all_goals first
              | exact ⟨k + 1, ⟨by omega, allN_succ hwl hwk⟩, ⟨[], ⟨by kernel_rfl, by kernel_rfl, by kernel_rfl, by kernel_rfl, by kernel_rfl, by kernel_rfl, by kernel_rfl⟩, (by repeat' first | exact trivial | exact rfl | kernel_rfl | exact Dle.of_eq rfl | exact MLe.of_eq rfl | exact Dle.i (by omega) | exact Dle.i (by simp only [Int.toNat_natCast] at *; omega) | exact Dle.nil | exact Dle.rc Dle.nil | exact Option.some_ne_none _ | exact Or.inl rfl | exact Or.inr trivial | omega | (simp only [Int.toNat_natCast] at *; omega) | (intro _ _ _ _; exact Dle.of_eq rfl) | refine And.intro ?_ ?_)⟩, by first | omega | (dsimp only; omega)⟩
              | trace_state
          · have hr2 := hB (fun h => by have := allN_iff.1 h.2 k hlt; exact hwk this)
            have hw4 : ¬ (1 ≤ l.getD ((k : Int)).toNat 0 ∧ l.getD ((k : Int)).toNat 0 ≤ 10000) := fun h => hwk (hw3.2 h)
            repeat' first
              | (refine facW_intro ?_; intro _)
              | refine Or.inl ?_
              | ((conv => whnf); first | (refine condW_dec ?_ ?_ <;> intro _ <;> try (exfalso; omega)) | refine condW_not ?_ | (refine condW_bool ?_ ?_ <;> intro _ <;> try (exfalso; omega)) | (refine nbC_t (fun _ => ?_) ?_) | (refine nbC_f ?_ (fun _ => ?_)))
              | refine And.intro (by first | omega | (simp only [Int.toNat_natCast] at *; omega) | (simp only [Nat.reduceAdd, Int.cast_ofNat_Int, true_and, and_true]; omega) | kernel_rfl) ?_
              | refine RegW.run ?_
              | fail
            all_goals first
              | exact hend _ _ hr2
              | trace_state
        · obtain rfl : k = l.length := by omega
          have hww : wideB w = true := wide_iff.2 ⟨by omega, by omega⟩
          have hO := hO hww hwl
          have hG := hG hww hwl
          clear hB
          have hz : (srcs a w l 0).length = 0 := rfl
          repeat' first
            | (refine facW_intro ?_; intro _)
            | refine Or.inl ?_
            | ((conv => whnf); first | (refine condW_dec ?_ ?_ <;> intro _ <;> try (exfalso; omega)) | refine condW_not ?_ | (refine condW_bool ?_ ?_ <;> intro _ <;> try (exfalso; omega)) | (refine nbC_t (fun _ => ?_) ?_) | (refine nbC_f ?_ (fun _ => ?_)))
            | refine And.intro (by first | omega | (simp only [Int.toNat_natCast] at *; omega) | (simp only [Nat.reduceAdd, Int.cast_ofNat_Int, true_and, and_true]; omega) | kernel_rfl) ?_
            | refine RegW.run ?_
            | fail
          refine ⟨Nat, fun k => [(47, i64 k), (11, i64 (lastW w l k)), (10, .own 47 1 0 (srcs a w l k).length)], fun k => [], [], fun k => [(47, 9, (srcs a w l k).length, rowS (srcs a w l k))], fun k => k ≤ l.length ∧ ordB l k = true, fun k => l.length - k, ⟨0, ⟨by omega, rfl⟩, ⟨[(47, none)], ⟨by kernel_rfl, by kernel_rfl, by kernel_rfl, by kernel_rfl, by kernel_rfl, by kernel_rfl, by kernel_rfl⟩, (by repeat' first | exact trivial | exact rfl | kernel_rfl | exact Dle.of_eq rfl | exact MLe.of_eq rfl | exact Dle.i (by omega) | exact Dle.i (by simp only [Int.toNat_natCast] at *; omega) | exact Dle.nil | exact Dle.rc Dle.nil | exact Option.some_ne_none _ | exact Or.inl rfl | exact Or.inr trivial | omega | (simp only [Int.toNat_natCast] at *; omega) | (intro _ _ _ _; exact Dle.of_eq rfl) | refine And.intro ?_ ?_)⟩⟩, fun k hk => ?_⟩
          obtain ⟨hk, hord⟩ := hk
          have hsl := srcs_len a w l k
          by_cases hlt : k < l.length
          · have hwk : wideB (l.getD k 0) = true := allN_iff.1 hwl k hlt
            have hs : Sp (cx Tryd.prog mixed tyT_ok E) 14 [dS a, i64 (l.getD ((k : Int)).toNat 0)] (dS (srcT a (l.getD k 0))) := source_sp E hP a (l.getD k 0) ha hwk
            have ek : ((k : Int) - 1).toNat = k - 1 := by omega
            by_cases hok : k = 0 ∨ l.getD (k - 1) 0 < l.getD k 0
            · have hord2 : ordB l (k + 1) = true := allN_succ hord (by simpa using hok)
              have hok2 : k = 0 ∨ l.getD ((k : Int) - 1).toNat 0 < l.getD ((k : Int)).toNat 0 := by rw [ek]; exact hok
              by_cases hle : l.getD k 0 ≤ w
              · have e1 := srcs_yes (a := a) hlt hle
                have hle2 : l.getD ((k : Int)).toNat 0 ≤ w := hle
                have e2 : lastW w l (k + 1) = l.getD ((k : Int)).toNat 0 := by rw [lastW, if_pos hle]; rfl
                have e3 : (srcs a w l k).length + 1 = (srcs a w l (k + 1)).length := by rw [e1, List.length_append]; rfl
                repeat' first
                  | (refine facW_intro ?_; intro _)
                  | refine Or.inl ?_
                  | ((conv => whnf); first | (refine condW_dec ?_ ?_ <;> intro _ <;> try (exfalso; omega)) | refine condW_not ?_ | (refine condW_bool ?_ ?_ <;> intro _ <;> try (exfalso; omega)) | (refine nbC_t (fun _ => ?_) ?_) | (refine nbC_f ?_ (fun _ => ?_)))
                  | refine And.intro (by first | omega | (simp only [Int.toNat_natCast] at *; omega) | (simp only [Nat.reduceAdd, Int.cast_ofNat_Int, true_and, and_true]; omega) | kernel_rfl) ?_
                  | refine RegW.run ?_
                  | refine ⟨_, hs, ?_⟩
                  | fail
                all_goals first
                  | exact ⟨k + 1, ⟨by omega, hord2⟩, ⟨[(47, some 72)], ⟨by kernel_rfl, by kernel_rfl, by kernel_rfl, by kernel_rfl, by kernel_rfl, by kernel_rfl, by kernel_rfl⟩, (by repeat' first | (exact e3) | exact trivial | exact rfl | kernel_rfl | exact Dle.of_eq rfl | exact MLe.of_eq rfl | exact Dle.i (by omega) | exact Dle.i (by simp only [Int.toNat_natCast] at *; omega) | exact Dle.nil | exact Dle.rc Dle.nil | exact Option.some_ne_none _ | exact Or.inl rfl | exact Or.inr trivial | omega | (simp only [Int.toNat_natCast] at *; omega) | (intro _ _ _ _; exact Dle.of_eq rfl) | (intro i j hi hj; (rw [e1]; exact row_strA E _ _ i j hi hj)) | refine And.intro ?_ ?_)⟩, by first | omega | (dsimp only; omega)⟩
                  | trace_state
              · have e1 := srcs_no (a := a) hlt hle
                have hle2 : ¬ l.getD ((k : Int)).toNat 0 ≤ w := hle
                have e2 : lastW w l (k + 1) = lastW w l k := by rw [lastW, if_neg hle]
                have e3 : (srcs a w l k).length = (srcs a w l (k + 1)).length := by rw [e1]
                repeat' first
                  | (refine facW_intro ?_; intro _)
                  | refine Or.inl ?_
                  | ((conv => whnf); first | (refine condW_dec ?_ ?_ <;> intro _ <;> try (exfalso; omega)) | refine condW_not ?_ | (refine condW_bool ?_ ?_ <;> intro _ <;> try (exfalso; omega)) | (refine nbC_t (fun _ => ?_) ?_) | (refine nbC_f ?_ (fun _ => ?_)))
                  | refine And.intro (by first | omega | (simp only [Int.toNat_natCast] at *; omega) | (simp only [Nat.reduceAdd, Int.cast_ofNat_Int, true_and, and_true]; omega) | kernel_rfl) ?_
                  | refine RegW.run ?_
                  | refine ⟨_, hs, ?_⟩
                  | fail
                all_goals first
                  | exact ⟨k + 1, ⟨by omega, hord2⟩, ⟨[(47, some 47)], ⟨by kernel_rfl, by kernel_rfl, by kernel_rfl, by kernel_rfl, by kernel_rfl, by kernel_rfl, by kernel_rfl⟩, (by repeat' first | (exact e3) | exact trivial | exact rfl | kernel_rfl | exact Dle.of_eq rfl | exact MLe.of_eq rfl | exact Dle.i (by omega) | exact Dle.i (by simp only [Int.toNat_natCast] at *; omega) | exact Dle.nil | exact Dle.rc Dle.nil | exact Option.some_ne_none _ | exact Or.inl rfl | exact Or.inr trivial | omega | (simp only [Int.toNat_natCast] at *; omega) | (intro _ _ _ _; exact Dle.of_eq rfl) | (intro i j hi hj; (rw [e1]; exact Dle.refl _ _)) | refine And.intro ?_ ?_)⟩, by first | omega | (dsimp only; omega)⟩
                  | trace_state
            · have hr2 := hO (ordB_long hlt (by omega) (by omega))
              have hok2 : ¬ (k = 0 ∨ l.getD ((k : Int) - 1).toNat 0 < l.getD ((k : Int)).toNat 0) := by rw [ek]; exact hok
              repeat' first
                | (refine facW_intro ?_; intro _)
                | refine Or.inl ?_
                | ((conv => whnf); first | (refine condW_dec ?_ ?_ <;> intro _ <;> try (exfalso; omega)) | refine condW_not ?_ | (refine condW_bool ?_ ?_ <;> intro _ <;> try (exfalso; omega)) | (refine nbC_t (fun _ => ?_) ?_) | (refine nbC_f ?_ (fun _ => ?_)))
                | refine And.intro (by first | omega | (simp only [Int.toNat_natCast] at *; omega) | (simp only [Nat.reduceAdd, Int.cast_ofNat_Int, true_and, and_true]; omega) | kernel_rfl) ?_
                | refine RegW.run ?_
                | fail
              all_goals first
                | exact hend _ _ hr2
                | trace_state
          · obtain rfl : k = l.length := by omega
            have hr2 := hG hord
            have hsz := srcAll_size (l := l) ha (by omega) hww hwl
            have hhas := lastW_has (w := w) (l := l) (by omega) hord
            have hs := source_sp E hP a w ha hww
            have hj := join_sp E (srcAll a w l) ⟨#[44, 32]⟩ (by omega) (by omega)
            by_cases hm : w ∈ l
            · have e : srcAll a w l = srcs a w l l.length := by unfold srcAll; rw [if_pos hm]
              have hlw := hhas.2 hm
              rw [e] at hj hr2
              subst hr2
              repeat' first
                | (refine facW_intro ?_; intro _)
                | refine Or.inl ?_
                | ((conv => whnf); first | (refine condW_dec ?_ ?_ <;> intro _ <;> try (exfalso; omega)) | refine condW_not ?_ | (refine condW_bool ?_ ?_ <;> intro _ <;> try (exfalso; omega)) | (refine nbC_t (fun _ => ?_) ?_) | (refine nbC_f ?_ (fun _ => ?_)))
                | refine And.intro (by first | omega | (simp only [Int.toNat_natCast] at *; omega) | (simp only [Nat.reduceAdd, Int.cast_ofNat_Int, true_and, and_true]; omega) | kernel_rfl) ?_
                | refine RegW.run ?_
                | refine ⟨_, hj, ?_⟩
                | fail
              all_goals first
                | exact Dle.refl _ _
                | trace_state
            · have e : srcAll a w l = srcs a w l l.length ++ [srcT a w] := by unfold srcAll; rw [if_neg hm]
              have hlw : ¬ lastW w l l.length = w := fun h => hm (hhas.1 h)
              have e3 : (srcs a w l l.length).length + 1 = (srcs a w l l.length ++ [srcT a w]).length := by rw [List.length_append]; rfl
              rw [e] at hj hr2
              subst hr2
              repeat' first
                | (refine facW_intro ?_; intro _)
                | refine Or.inl ?_
                | ((conv => whnf); first | (refine condW_dec ?_ ?_ <;> intro _ <;> try (exfalso; omega)) | refine condW_not ?_ | (refine condW_bool ?_ ?_ <;> intro _ <;> try (exfalso; omega)) | (refine nbC_t (fun _ => ?_) ?_) | (refine nbC_f ?_ (fun _ => ?_)))
                | refine And.intro (by first | omega | (simp only [Int.toNat_natCast] at *; omega) | (simp only [Nat.reduceAdd, Int.cast_ofNat_Int, true_and, and_true]; omega) | kernel_rfl) ?_
                | refine RegW.run ?_
                | refine ⟨_, hs, ?_⟩
                | refine ⟨_, hj.arg (Dle.sl (X := (cx Tryd.prog mixed tyT_ok E)) e3 (fun i j hi hj => row_strA E _ _ i j hi hj)), ?_⟩
                | fail
              all_goals first
                | exact Dle.refl _ _
                | trace_state
    · rw [if_pos (fun h => hq h.2)] at hr
      have hq : pathB (a.extract 1 a.size) = false := by simpa using hq
      rw [hq] at h2
      refine Sp.body Tryd.func6 (by kernel_rfl) rfl (by kernel_rfl) (by kernel_rfl) (by kernel_rfl) ?_
      repeat' first
        | (refine facW_intro ?_; intro _)
        | refine Or.inl ?_
        | ((conv => whnf); first | (refine condW_dec ?_ ?_ <;> intro _ <;> try (exfalso; omega)) | refine condW_not ?_ | (refine condW_bool ?_ ?_ <;> intro _ <;> try (exfalso; omega)) | (refine nbC_t (fun _ => ?_) ?_) | (refine nbC_f ?_ (fun _ => ?_)))
        | refine And.intro (by first | omega | (simp only [Int.toNat_natCast] at *; omega) | (simp only [Nat.reduceAdd, Int.cast_ofNat_Int, true_and, and_true]; omega) | kernel_rfl) ?_
        | refine RegW.run ?_
        | refine ⟨_, h1, ?_⟩
        | refine ⟨_, h2, ?_⟩
        | fail
      all_goals first
        | (exfalso; rename_i h; exact h rfl)
        | exact hend _ _ hr
        | trace_state
  · rw [if_pos (fun h => hp h.1)] at hr
    have hp : preS a ⟨#[47]⟩ = false := by simpa using hp
    rw [hp] at h1
    refine Sp.body Tryd.func6 (by kernel_rfl) rfl (by kernel_rfl) (by kernel_rfl) (by kernel_rfl) ?_
    repeat' first
      | (refine facW_intro ?_; intro _)
      | refine Or.inl ?_
      | ((conv => whnf); first | (refine condW_dec ?_ ?_ <;> intro _ <;> try (exfalso; omega)) | refine condW_not ?_ | (refine condW_bool ?_ ?_ <;> intro _ <;> try (exfalso; omega)) | (refine nbC_t (fun _ => ?_) ?_) | (refine nbC_f ?_ (fun _ => ?_)))
      | refine And.intro (by first | omega | (simp only [Int.toNat_natCast] at *; omega) | (simp only [Nat.reduceAdd, Int.cast_ofNat_Int, true_and, and_true]; omega) | kernel_rfl) ?_
      | refine RegW.run ?_
      | refine ⟨_, h1, ?_⟩
      | fail
    all_goals first
      | (exfalso; rename_i h; exact h rfl)
      | exact hend _ _ hr
      | trace_state
end
end srcset
end Go.Proofs.YtagggnjcpjodjaaDoor
