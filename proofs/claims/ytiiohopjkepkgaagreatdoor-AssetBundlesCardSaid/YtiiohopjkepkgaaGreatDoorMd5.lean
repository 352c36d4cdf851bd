/-
  A bundle's map read: strings.HasSuffix, TrimSuffix; slices.Contains of a row that is lent.
-/
import Derived.Test.YtiiohopjkepkgaaGreatDoorMd4
import Derived.Test.YtiiohopjkepkgaaGreatDoorN18
namespace Go.Proofs.YtiiohopjkepkgaaGreatDoor
open Go.RowKit
set_option linter.unusedVariables false
set_option linter.unusedSimpArgs false
namespace md
open mp32
def sufS (s p : ByteArray) : Bool := decide (p.size ≤ s.size) && decide (s.extract (s.size - p.size) s.size = p)
theorem toL_ext {a b : ByteArray} (h : a.data.toList = b.data.toList) : a = b := by
  apply ByteArray.ext
  apply Array.ext'
  exact h
theorem ext_L (s : ByteArray) (a b : Nat) : (s.extract a b).data.toList = (s.data.toList.take b).drop a := by
  simp [ByteArray.data_extract, List.drop_take]
theorem app_L (a b : ByteArray) : (a ++ b).data.toList = a.data.toList ++ b.data.toList := by simp [ByteArray.data_append]
theorem suf_yes {s : ByteArray} {c : UInt8} (h : sufS s ⟨#[c]⟩ = true) : s = s.extract 0 (s.size - 1) ++ ⟨#[c]⟩ := by
  unfold sufS at h
  simp only [Bool.and_eq_true, decide_eq_true_eq] at h
  obtain ⟨h1, h2⟩ := h
  have h1 : 1 ≤ s.size := h1
  have h2 : s.extract (s.size - 1) s.size = ⟨#[c]⟩ := h2
  have hl : s.data.toList.length = s.size := by simp
  refine toL_ext ?_
  rw [← h2, app_L, ext_L, ext_L, List.drop_zero, List.take_of_length_le (l := s.data.toList) (i := s.size) (by omega), List.take_append_drop]
theorem suf_of {s : ByteArray} {c : UInt8} {A : List UInt8} (h : s.data.toList = A ++ [c]) : sufS s ⟨#[c]⟩ = true := by
  have hl : s.data.toList.length = s.size := by simp
  have h2 := congrArg List.length h
  rw [List.length_append, hl] at h2
  have h2 : s.size = A.length + 1 := h2
  unfold sufS
  simp only [Bool.and_eq_true, decide_eq_true_eq]
  refine ⟨by show 1 ≤ s.size; omega, toL_ext ?_⟩
  show (s.extract (s.size - 1) s.size).data.toList = [c]
  rw [ext_L, List.take_of_length_le (by omega), h]
  rw [show s.size - 1 = A.length by omega]
  exact List.drop_left ..
/-- A text that ends in a line feed: its lines. -/
theorem lines_yes {s : ByteArray} (h : sufS s ⟨#[10]⟩ = true) : lnsP s = pcs (s.extract 0 (s.size - 1)) ⟨#[10]⟩ ∧ lastP s = ⟨#[]⟩ := by
  have e := suf_yes h
  have hp : pcs s ⟨#[10]⟩ = pcs (s.extract 0 (s.size - 1)) ⟨#[10]⟩ ++ [⟨#[]⟩] := by
    conv => lhs; rw [e]
    exact pcs_snoc _ _
  unfold lnsP lastP
  rw [hp]
  exact ⟨List.dropLast_concat, by simp [List.getD]⟩
theorem lines_no {s : ByteArray} (h0 : s ≠ ⟨#[]⟩) (h : sufS s ⟨#[10]⟩ = false) : lastP s ≠ ⟨#[]⟩ := by
  intro hl
  have hp := pcs_lns 10 _ s (Nat.lt_succ_self _)
  have hq : (lns 10 s.data.toList).getLast? = some [] := by
    obtain ⟨i, l, e1, e2⟩ := lns_join 10 s.data.toList
    rw [e1, List.getLast?_append]
    simp only [List.getLast?_singleton, Option.some_or, Option.some.injEq]
    unfold lastP at hl
    rw [hp, e1, List.map_append] at hl
    have : toB l = ⟨#[]⟩ := by simpa [List.getD] using hl
    have := congrArg (fun b : ByteArray => b.data.toList) this
    simpa [toB] using this
  rcases lns_last 10 _ hq with h1 | ⟨A, h1⟩
  · exact h0 (toL_ext h1)
  · rw [suf_of h1] at h
    cases h
theorem lines_nil : lnsP ⟨#[]⟩ = [] ∧ lastP ⟨#[]⟩ = ⟨#[]⟩ := by
  unfold lnsP lastP
  rw [pcs_nil]
  exact ⟨rfl, rfl⟩
section
variable (E : Env)
set_option maxRecDepth 100000
theorem innerSuf_sp (s p : ByteArray) : Sp (cx Tryz.prog mixed tyT_ok E) 58 [dS s, dS p] (dB (sufS s p)) := by
  have e1 : p.size ≤ s.size → ((s.size : Int) - (p.size : Int)).toNat = s.size - p.size := fun h => by omega
  refine Sp.body Tryz.func58 (by kernel_rfl) rfl (by kernel_rfl) (by kernel_rfl) (by kernel_rfl) ?_
  repeat' first
    | (refine codeW_cond rfl ?_; first | (refine condW_dec ?_ ?_ <;> intro _ <;> try (exfalso; omega)) | refine condW_not ?_ | (refine condW_bool ?_ ?_ <;> intro _ <;> try (exfalso; omega)))
    | (refine facW_intro ?_; intro _)
    | refine Or.inl ?_
    | ((conv => whnf); first | (refine condW_dec ?_ ?_ <;> intro _) | refine condW_not ?_ | (refine condW_bool ?_ ?_ <;> intro _) | (refine nbC_t (fun _ => ?_) ?_) | (refine nbC_f ?_ (fun _ => ?_)))
    | refine And.intro (by first | omega | (simp only [Int.toNat_natCast] at *; omega) | (simp only [Nat.reduceAdd, Int.cast_ofNat_Int, true_and, and_true]; omega) | kernel_rfl) ?_
    | refine RegW.run ?_
    | fail
  all_goals first
    | exact Dle.bo (by unfold sufS; grind)
    | trace_state
theorem suf_sp (s p : ByteArray) : Sp (cx Tryz.prog mixed tyT_ok E) 17 [dS s, dS p] (dB (sufS s p)) := by
  have h := innerSuf_sp E s p
  generalize sufS s p = b at h
  refine Sp.body Tryz.func17 (by kernel_rfl) rfl (by kernel_rfl) (by kernel_rfl) (by kernel_rfl) ?_
  repeat' first
    | (refine codeW_cond rfl ?_; first | (refine condW_dec ?_ ?_ <;> intro _ <;> try (exfalso; omega)) | refine condW_not ?_ | (refine condW_bool ?_ ?_ <;> intro _ <;> try (exfalso; omega)))
    | (refine facW_intro ?_; intro _)
    | refine Or.inl ?_
    | ((conv => whnf); first | (refine condW_dec ?_ ?_ <;> intro _) | refine condW_not ?_ | (refine condW_bool ?_ ?_ <;> intro _) | (refine nbC_t (fun _ => ?_) ?_) | (refine nbC_f ?_ (fun _ => ?_)))
    | refine And.intro (by first | omega | (simp only [Int.toNat_natCast] at *; omega) | (simp only [Nat.reduceAdd, Int.cast_ofNat_Int, true_and, and_true]; omega) | kernel_rfl) ?_
    | refine RegW.run ?_
    | refine ⟨_, h, ?_⟩
    | fail
  all_goals exact Dle.refl _ _
theorem innerTrim_sp (s p : ByteArray) (h : sufS s p = true) : Sp (cx Tryz.prog mixed tyT_ok E) 89 [dS s, dS p] (dS (s.extract 0 (s.size - p.size))) := by
  have h1 := innerSuf_sp E s p
  rw [h] at h1
  have hz : p.size ≤ s.size := by
    unfold sufS at h
    simp only [Bool.and_eq_true, decide_eq_true_eq] at h
    exact h.1
  have e1 : ((s.size : Int) - (p.size : Int)).toNat = s.size - p.size := by omega
  refine Sp.body Tryz.func89 (by kernel_rfl) rfl (by kernel_rfl) (by kernel_rfl) (by kernel_rfl) ?_
  repeat' first
    | (refine codeW_cond rfl ?_; first | (refine condW_dec ?_ ?_ <;> intro _ <;> try (exfalso; omega)) | refine condW_not ?_ | (refine condW_bool ?_ ?_ <;> intro _ <;> try (exfalso; omega)))
    | (refine facW_intro ?_; intro _)
    | refine Or.inl ?_
    | ((conv => whnf); first | (refine condW_dec ?_ ?_ <;> intro _ <;> try (exfalso; omega)) | refine condW_not ?_ | (refine condW_bool ?_ ?_ <;> intro _ <;> try (exfalso; omega)) | (refine nbC_t (fun _ => ?_) ?_) | (refine nbC_f ?_ (fun _ => ?_)))
    | refine And.intro (by first | omega | (simp only [Int.toNat_natCast] at *; omega) | (simp only [Nat.reduceAdd, Int.cast_ofNat_Int, true_and, and_true]; omega) | kernel_rfl) ?_
    | refine RegW.run ?_
    | refine ⟨_, h1, ?_⟩
    | fail
  all_goals first
    | (exfalso; rename_i h; cases h; done)
    | (rw [← e1]; exact Dle.refl _ _)
    | trace_state
theorem trimSuf_sp (s p : ByteArray) (h : sufS s p = true) : Sp (cx Tryz.prog mixed tyT_ok E) 44 [dS s, dS p] (dS (s.extract 0 (s.size - p.size))) := by
  have h1 := innerTrim_sp E s p h
  generalize s.extract 0 (s.size - p.size) = t at h1
  refine Sp.body Tryz.func44 (by kernel_rfl) rfl (by kernel_rfl) (by kernel_rfl) (by kernel_rfl) ?_
  repeat' first
    | (refine codeW_cond rfl ?_; first | (refine condW_dec ?_ ?_ <;> intro _ <;> try (exfalso; omega)) | refine condW_not ?_ | (refine condW_bool ?_ ?_ <;> intro _ <;> try (exfalso; omega)))
    | (refine facW_intro ?_; intro _)
    | refine Or.inl ?_
    | ((conv => whnf); first | (refine condW_dec ?_ ?_ <;> intro _) | refine condW_not ?_ | (refine condW_bool ?_ ?_ <;> intro _) | (refine nbC_t (fun _ => ?_) ?_) | (refine nbC_f ?_ (fun _ => ?_)))
    | refine And.intro (by first | omega | (simp only [Int.toNat_natCast] at *; omega) | (simp only [Nat.reduceAdd, Int.cast_ofNat_Int, true_and, and_true]; omega) | kernel_rfl) ?_
    | refine RegW.run ?_
    | refine ⟨_, h1, ?_⟩
    | fail
  all_goals exact Dle.refl _ _
theorem contL0_sp (ps : List ByteArray) (n k : Nat) (s : ByteArray) (hk : k ≤ n) (hn : n ≤ 1000000) : SpH (cx Tryz.prog mixed tyT_ok E) 23 [.own 2000 1 0 k, dS s] [(2000, .row 9 n (fun i _ => dS (ps.getD i ⟨#[]⟩)))] (dB (inK ps k s)) [(2000, .row 9 n (fun i _ => dS (ps.getD i ⟨#[]⟩)))] := by
  have key : ∃ r : Int, SpH (cx Tryz.prog mixed tyT_ok E) 63 [.own 2000 1 0 k, dS s] [(2000, .row 9 n (fun i _ => dS (ps.getD i ⟨#[]⟩)))] (i64 r) [(2000, .row 9 n (fun i _ => dS (ps.getD i ⟨#[]⟩)))] ∧ (0 ≤ r ↔ inK ps k s = true) := by
    by_cases hm : allN k (fun i => decide (¬ ps.getD i ⟨#[]⟩ = s)) = true
    · have hne : ∀ j, j < k → ¬ ps.getD (0 + j) ⟨#[]⟩ = s := fun j hj => by rw [Nat.zero_add]; simpa using allN_iff.1 hm j hj
      refine ⟨-1, ?_, ⟨fun h => by omega, fun h => by unfold inK at h; rw [hm] at h; cases h⟩⟩
      refine SpH.body Tryz.func63 (by kernel_rfl) rfl (by kernel_rfl) (by kernel_rfl) (by kernel_rfl) ?_
      repeat' first
        | (refine codeW_cond rfl ?_; first | (refine condW_dec ?_ ?_ <;> intro _ <;> try (exfalso; omega)) | refine condW_not ?_ | (refine condW_bool ?_ ?_ <;> intro _ <;> try (exfalso; omega)))
        | (refine facW_intro ?_; intro _)
        | refine Or.inl ?_
        | ((conv => whnf); first | (refine condW_dec ?_ ?_ <;> intro _ <;> try (exfalso; omega)) | refine condW_not ?_ | (refine condW_bool ?_ ?_ <;> intro _ <;> try (exfalso; omega)) | (refine nbC_t (fun _ => ?_) ?_) | (refine nbC_f ?_ (fun _ => ?_)))
        | refine And.intro (by first | omega | (simp only [Int.toNat_natCast] at *; omega) | (simp only [Nat.reduceAdd, Int.cast_ofNat_Int, true_and, and_true]; omega) | kernel_rfl) ?_
        | refine RegW.run ?_
        | fail
      refine ⟨Nat, fun j => [(8, i64 j)], fun j => [], [2000], fun j => [], fun j => j ≤ k, fun j => k - j, ⟨0, by omega, ⟨[], ⟨by kernel_rfl, by kernel_rfl, by kernel_rfl, by kernel_rfl, by kernel_rfl, by kernel_rfl, by kernel_rfl⟩, (by repeat' first | exact trivial | exact rfl | kernel_rfl | exact Dle.of_eq rfl | exact MLe.of_eq rfl | exact Dle.i (by omega) | exact Dle.i (by simp only [Int.toNat_natCast] at *; omega) | exact Dle.nil | exact Dle.rc Dle.nil | exact Option.some_ne_none _ | exact Or.inl rfl | exact Or.inr trivial | omega | (simp only [Int.toNat_natCast] at *; omega) | (intro _ _ _ _; exact Dle.of_eq rfl) | refine And.intro ?_ ?_)⟩⟩, fun j hj => ?_⟩
      have hj : j ≤ k := hj
      by_cases hlt : j < k
      · have hne := hne j hlt
        repeat' first
          | (refine codeW_cond rfl ?_; first | (refine condW_dec ?_ ?_ <;> intro _ <;> try (exfalso; omega)) | refine condW_not ?_ | (refine condW_bool ?_ ?_ <;> intro _ <;> try (exfalso; omega)))
          | (refine facW_intro ?_; intro _)
          | refine Or.inl ?_
          | ((conv => whnf); first | (refine condW_dec ?_ ?_ <;> intro _ <;> try (exfalso; omega)) | refine condW_not ?_ | (refine condW_bool ?_ ?_ <;> intro _ <;> try (exfalso; omega)) | (refine nbC_t (fun _ => ?_) ?_) | (refine nbC_f ?_ (fun _ => ?_)))
          | refine And.intro (by first | omega | (simp only [Int.toNat_natCast] at *; omega) | (simp only [Nat.reduceAdd, Int.cast_ofNat_Int, true_and, and_true]; omega) | kernel_rfl) ?_
          | refine RegW.run ?_
          | fail
        all_goals first
          | exact ⟨j + 1, by omega, ⟨[], ⟨by kernel_rfl, by kernel_rfl, by kernel_rfl, by kernel_rfl, by kernel_rfl, by kernel_rfl, by kernel_rfl⟩, (by repeat' first | exact trivial | exact rfl | kernel_rfl | exact Dle.of_eq rfl | exact MLe.of_eq rfl | exact Dle.i (by omega) | exact Dle.i (by simp only [Int.toNat_natCast] at *; omega) | exact Dle.nil | exact Dle.rc Dle.nil | exact Option.some_ne_none _ | exact Or.inl rfl | exact Or.inr trivial | omega | (simp only [Int.toNat_natCast] at *; omega) | (intro _ _ _ _; exact Dle.of_eq rfl) | refine And.intro ?_ ?_)⟩, by first | omega | (dsimp only; omega)⟩
          | (exfalso; rename_i h; exact hne h)
          | (exfalso; rename_i h; exact hne h.symm)
          | trace_state
      · repeat' first
          | (refine codeW_cond rfl ?_; first | (refine condW_dec ?_ ?_ <;> intro _ <;> try (exfalso; omega)) | refine condW_not ?_ | (refine condW_bool ?_ ?_ <;> intro _ <;> try (exfalso; omega)))
          | (refine facW_intro ?_; intro _)
          | refine Or.inl ?_
          | ((conv => whnf); first | (refine condW_dec ?_ ?_ <;> intro _ <;> try (exfalso; omega)) | refine condW_not ?_ | (refine condW_bool ?_ ?_ <;> intro _ <;> try (exfalso; omega)) | (refine nbC_t (fun _ => ?_) ?_) | (refine nbC_f ?_ (fun _ => ?_)))
          | refine And.intro (by first | omega | (simp only [Int.toNat_natCast] at *; omega) | (simp only [Nat.reduceAdd, Int.cast_ofNat_Int, true_and, and_true]; omega) | kernel_rfl) ?_
          | refine RegW.run ?_
          | fail
        all_goals first
          | exact ⟨[(2000, .row 9 n (fun i _ => dS (ps.getD i ⟨#[]⟩)))], [], rfl, ⟨[], ⟨by kernel_rfl, by kernel_rfl, by kernel_rfl, by kernel_rfl, by kernel_rfl, by kernel_rfl, by kernel_rfl⟩, ⟨⟨rfl, Dle.refl _ _⟩, trivial⟩, (by repeat' first | exact trivial | exact rfl | kernel_rfl | exact Dle.of_eq rfl | exact MLe.of_eq rfl | exact Dle.i (by omega) | exact Dle.i (by simp only [Int.toNat_natCast] at *; omega) | exact Dle.nil | exact Dle.rc Dle.nil | exact Option.some_ne_none _ | exact Or.inl rfl | exact Or.inr trivial | omega | (simp only [Int.toNat_natCast] at *; omega) | (intro _ _ _ _; exact Dle.of_eq rfl) | refine And.intro ?_ ?_), trivial, trivial⟩, rfl⟩
          | trace_state
    · have hm : allN k (fun i => decide (¬ ps.getD i ⟨#[]⟩ = s)) = false := by simpa using hm
      obtain ⟨m, hm1, hm2, hm3⟩ := first_no hm
      have hm2 : ps.getD (0 + m) ⟨#[]⟩ = s := by rw [Nat.zero_add]; simpa using hm2
      have hm3 : ∀ j, j < m → ¬ ps.getD (0 + j) ⟨#[]⟩ = s := fun j hj => by rw [Nat.zero_add]; simpa using hm3 j hj
      refine ⟨m, ?_, ⟨fun _ => by unfold inK; rw [hm]; rfl, fun _ => by omega⟩⟩
      refine SpH.body Tryz.func63 (by kernel_rfl) rfl (by kernel_rfl) (by kernel_rfl) (by kernel_rfl) ?_
      repeat' first
        | (refine codeW_cond rfl ?_; first | (refine condW_dec ?_ ?_ <;> intro _ <;> try (exfalso; omega)) | refine condW_not ?_ | (refine condW_bool ?_ ?_ <;> intro _ <;> try (exfalso; omega)))
        | (refine facW_intro ?_; intro _)
        | refine Or.inl ?_
        | ((conv => whnf); first | (refine condW_dec ?_ ?_ <;> intro _ <;> try (exfalso; omega)) | refine condW_not ?_ | (refine condW_bool ?_ ?_ <;> intro _ <;> try (exfalso; omega)) | (refine nbC_t (fun _ => ?_) ?_) | (refine nbC_f ?_ (fun _ => ?_)))
        | refine And.intro (by first | omega | (simp only [Int.toNat_natCast] at *; omega) | (simp only [Nat.reduceAdd, Int.cast_ofNat_Int, true_and, and_true]; omega) | kernel_rfl) ?_
        | refine RegW.run ?_
        | fail
      refine ⟨Nat, fun j => [(8, i64 j)], fun j => [], [2000], fun j => [], fun j => j ≤ m, fun j => k - j, ⟨0, by omega, ⟨[], ⟨by kernel_rfl, by kernel_rfl, by kernel_rfl, by kernel_rfl, by kernel_rfl, by kernel_rfl, by kernel_rfl⟩, (by repeat' first | exact trivial | exact rfl | kernel_rfl | exact Dle.of_eq rfl | exact MLe.of_eq rfl | exact Dle.i (by omega) | exact Dle.i (by simp only [Int.toNat_natCast] at *; omega) | exact Dle.nil | exact Dle.rc Dle.nil | exact Option.some_ne_none _ | exact Or.inl rfl | exact Or.inr trivial | omega | (simp only [Int.toNat_natCast] at *; omega) | (intro _ _ _ _; exact Dle.of_eq rfl) | refine And.intro ?_ ?_)⟩⟩, fun j hj => ?_⟩
      have hj : j ≤ m := hj
      by_cases hjm : j = m
      · subst hjm
        repeat' first
          | (refine codeW_cond rfl ?_; first | (refine condW_dec ?_ ?_ <;> intro _ <;> try (exfalso; omega)) | refine condW_not ?_ | (refine condW_bool ?_ ?_ <;> intro _ <;> try (exfalso; omega)))
          | (refine facW_intro ?_; intro _)
          | refine Or.inl ?_
          | ((conv => whnf); first | (refine condW_dec ?_ ?_ <;> intro _ <;> try (exfalso; omega)) | refine condW_not ?_ | (refine condW_bool ?_ ?_ <;> intro _ <;> try (exfalso; omega)) | (refine nbC_t (fun _ => ?_) ?_) | (refine nbC_f ?_ (fun _ => ?_)))
          | refine And.intro (by first | omega | (simp only [Int.toNat_natCast] at *; omega) | (simp only [Nat.reduceAdd, Int.cast_ofNat_Int, true_and, and_true]; omega) | kernel_rfl) ?_
          | refine RegW.run ?_
          | fail
        all_goals first
          | exact ⟨[(2000, .row 9 n (fun i _ => dS (ps.getD i ⟨#[]⟩)))], [], rfl, ⟨[], ⟨by kernel_rfl, by kernel_rfl, by kernel_rfl, by kernel_rfl, by kernel_rfl, by kernel_rfl, by kernel_rfl⟩, ⟨⟨rfl, Dle.refl _ _⟩, trivial⟩, (by repeat' first | exact trivial | exact rfl | kernel_rfl | exact Dle.of_eq rfl | exact MLe.of_eq rfl | exact Dle.i (by omega) | exact Dle.i (by simp only [Int.toNat_natCast] at *; omega) | exact Dle.nil | exact Dle.rc Dle.nil | exact Option.some_ne_none _ | exact Or.inl rfl | exact Or.inr trivial | omega | (simp only [Int.toNat_natCast] at *; omega) | (intro _ _ _ _; exact Dle.of_eq rfl) | refine And.intro ?_ ?_), trivial, trivial⟩, rfl⟩
          | (exfalso; rename_i h; exact h hm2.symm)
          | (exfalso; rename_i h; exact h hm2)
          | trace_state
      · have hne := hm3 j (by omega)
        repeat' first
          | (refine codeW_cond rfl ?_; first | (refine condW_dec ?_ ?_ <;> intro _ <;> try (exfalso; omega)) | refine condW_not ?_ | (refine condW_bool ?_ ?_ <;> intro _ <;> try (exfalso; omega)))
          | (refine facW_intro ?_; intro _)
          | refine Or.inl ?_
          | ((conv => whnf); first | (refine condW_dec ?_ ?_ <;> intro _ <;> try (exfalso; omega)) | refine condW_not ?_ | (refine condW_bool ?_ ?_ <;> intro _ <;> try (exfalso; omega)) | (refine nbC_t (fun _ => ?_) ?_) | (refine nbC_f ?_ (fun _ => ?_)))
          | refine And.intro (by first | omega | (simp only [Int.toNat_natCast] at *; omega) | (simp only [Nat.reduceAdd, Int.cast_ofNat_Int, true_and, and_true]; omega) | kernel_rfl) ?_
          | refine RegW.run ?_
          | fail
        all_goals first
          | exact ⟨j + 1, by omega, ⟨[], ⟨by kernel_rfl, by kernel_rfl, by kernel_rfl, by kernel_rfl, by kernel_rfl, by kernel_rfl, by kernel_rfl⟩, (by repeat' first | exact trivial | exact rfl | kernel_rfl | exact Dle.of_eq rfl | exact MLe.of_eq rfl | exact Dle.i (by omega) | exact Dle.i (by simp only [Int.toNat_natCast] at *; omega) | exact Dle.nil | exact Dle.rc Dle.nil | exact Option.some_ne_none _ | exact Or.inl rfl | exact Or.inr trivial | omega | (simp only [Int.toNat_natCast] at *; omega) | (intro _ _ _ _; exact Dle.of_eq rfl) | refine And.intro ?_ ?_)⟩, by first | omega | (dsimp only; omega)⟩
          | (exfalso; rename_i h; exact hne h)
          | (exfalso; rename_i h; exact hne h.symm)
          | trace_state
  obtain ⟨r, h1, h2⟩ := key
  refine SpH.body Tryz.func23 (by kernel_rfl) rfl (by kernel_rfl) (by kernel_rfl) (by kernel_rfl) ?_
  repeat' first
    | refine Or.inr ⟨_, _, _, h1, by kernel_rfl, (by repeat' first | exact trivial | exact rfl | kernel_rfl | exact Dle.of_eq rfl | exact MLe.of_eq rfl | exact Dle.i (by omega) | exact Dle.i (by simp only [Int.toNat_natCast] at *; omega) | exact Dle.nil | exact Dle.rc Dle.nil | exact Option.some_ne_none _ | exact Or.inl rfl | exact Or.inr trivial | omega | (simp only [Int.toNat_natCast] at *; omega) | (intro _ _ _ _; exact Dle.of_eq rfl) | refine And.intro ?_ ?_), ?_⟩
    | (refine codeW_cond rfl ?_; first | (refine condW_dec ?_ ?_ <;> intro _ <;> try (exfalso; omega)) | refine condW_not ?_ | (refine condW_bool ?_ ?_ <;> intro _ <;> try (exfalso; omega)))
    | (refine facW_intro ?_; intro _)
    | refine Or.inl ?_
    | ((conv => whnf); first | (refine condW_dec ?_ ?_ <;> intro _ <;> try (exfalso; omega)) | refine condW_not ?_ | (refine condW_bool ?_ ?_ <;> intro _ <;> try (exfalso; omega)) | (refine nbC_t (fun _ => ?_) ?_) | (refine nbC_f ?_ (fun _ => ?_)))
    | refine And.intro (by first | omega | (simp only [Int.toNat_natCast] at *; omega) | (simp only [Nat.reduceAdd, Int.cast_ofNat_Int, true_and, and_true]; omega) | kernel_rfl) ?_
    | refine RegW.run ?_
    | fail
  all_goals first
    | exact ⟨[(2000, .row 9 n (fun i _ => dS (ps.getD i ⟨#[]⟩)))], [], rfl, ⟨[], ⟨by kernel_rfl, by kernel_rfl, by kernel_rfl, by kernel_rfl, by kernel_rfl, by kernel_rfl, by kernel_rfl⟩, ⟨⟨rfl, Dle.bo (by rw [Bool.eq_iff_iff, decide_eq_true_eq]; exact h2)⟩, trivial⟩, (by repeat' first | exact trivial | exact rfl | kernel_rfl | exact Dle.of_eq rfl | exact MLe.of_eq rfl | exact Dle.i (by omega) | exact Dle.i (by simp only [Int.toNat_natCast] at *; omega) | exact Dle.nil | exact Dle.rc Dle.nil | exact Option.some_ne_none _ | exact Or.inl rfl | exact Or.inr trivial | omega | (simp only [Int.toNat_natCast] at *; omega) | (intro _ _ _ _; exact Dle.of_eq rfl) | refine And.intro ?_ ?_), trivial, trivial⟩, rfl⟩
    | trace_state
theorem contL_sp (L : Nat) (ps : List ByteArray) (n k : Nat) (s : ByteArray) (hk : k ≤ n) (hn : n ≤ 1000000) : SpH (cx Tryz.prog mixed tyT_ok E) 23 [.own L 1 0 k, dS s] [(L, .row 9 n (fun i _ => dS (ps.getD i ⟨#[]⟩)))] (dB (inK ps k s)) [(L, .row 9 n (fun i _ => dS (ps.getD i ⟨#[]⟩)))] := by
  have h := (contL0_sp E ps n k s hk hn).swap 2000 L
  simpa only [D.renL, D.ren, renH, Ob.ren, swp_l] using h
end
end md
end Go.Proofs.YtiiohopjkepkgaaGreatDoor
