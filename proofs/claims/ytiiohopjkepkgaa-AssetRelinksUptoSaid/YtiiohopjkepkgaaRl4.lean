/-
  Names put for the paths of links: mastref2.RelinkOf over data; the law.
-/
import Derived.Test.YtiiohopjkepkgaaRl3
namespace Go.Proofs.Ytiiohopjkepkgaa
open Go.RowKit
set_option linter.unusedVariables false
set_option linter.unusedSimpArgs false
namespace rl
open tk
abbrev refN (x : Nm) : DD := .ref 2 (fun j => ([dS x.1, dS x.2] : List DD).getD (0 + j) .opq)
abbrev refNs (l : List Nm) : DD := .ref 1 (fun j => ([encNs l] : List DD).getD (0 + j) .opq)
/-- The first of the first k names with a path; -1: none. -/
def fstN (l : List Nm) (k : Nat) (p : ByteArray) (i : Nat) : Int := if i < k then (if (l.getD i nz).1 = p then (i : Int) else fstN l k p (i + 1)) else -1
  termination_by k - i
theorem fstN_end {l : List Nm} {k i : Nat} {p : ByteArray} (h : ¬ i < k) : fstN l k p i = -1 := by rw [fstN, if_neg h]
theorem fstN_at {l : List Nm} {k i : Nat} {p : ByteArray} (h : i < k) (h2 : (l.getD i nz).1 = p) : fstN l k p i = i := by rw [fstN, if_pos h, if_pos h2]
theorem fstN_next {l : List Nm} {k i : Nat} {p : ByteArray} (h : i < k) (h2 : ¬ (l.getD i nz).1 = p) : fstN l k p i = fstN l k p (i + 1) := by rw [fstN, if_pos h, if_neg h2]
theorem drop_at {l : List Nm} {i : Nat} (h : i < l.length) : l.drop i = l.getD i nz :: l.drop (i + 1) := by
  rw [List.drop_eq_getElem_cons h]
  simp [List.getD, h]
theorem nmL_cons (x : Nm) (l : List Nm) (p : ByteArray) : nmL (x :: l) p = if x.1 = p then some x.2 else nmL l p := by
  unfold nmL
  by_cases h : x.1 = p
  · rw [if_pos h]; simp [List.find?, h]
  · rw [if_neg h]; simp [List.find?, h]
theorem fstN_some (l : List Nm) (p : ByteArray) {k : Nat} (hk : k ≤ l.length) : ∀ (m i : Nat), k - i < m → decide (0 ≤ fstN l k p i) = (nmL ((l.take k).drop i) p).isSome
  | 0, _, h => by omega
  | m + 1, i, h => by
    have hl : (l.take k).length = k := by rw [List.length_take]; omega
    by_cases hi : i < k
    · have e1 : (l.take k).getD i nz = l.getD i nz := by
        simp only [List.getD]
        rw [List.getElem?_take, if_pos hi]
      rw [drop_at (l := l.take k) (by omega), nmL_cons, e1]
      by_cases h2 : (l.getD i nz).1 = p
      · rw [fstN_at hi h2, if_pos h2]
        simp
      · rw [fstN_next hi h2, if_neg h2]
        exact fstN_some l p hk m (i + 1) (by omega)
    · rw [fstN_end hi, List.drop_eq_nil_of_le (by omega)]
      rfl
section
variable (E : Env)
set_option maxRecDepth 100000
theorem same_sp (x y : Nm) : Sp (cx Try.prog mixed tyT_ok E) 10 [.agg [dS y.1, dS y.2], refN x] (dB (decide (y.1 = x.1))) := by
  refine Sp.body Try.func10 (by kernel_rfl) rfl (by kernel_rfl) (by kernel_rfl) (by kernel_rfl) ?_
  repeat' first
    | (refine codeW_cond rfl ?_; first | (refine condW_dec ?_ ?_ <;> intro _ <;> try (exfalso; omega)) | refine condW_not ?_ | (refine condW_bool ?_ ?_ <;> intro _ <;> try (exfalso; omega)))
    | (refine facW_intro ?_; intro _)
    | refine Or.inl ?_
    | ((conv => whnf); first | (refine condW_dec ?_ ?_ <;> intro _ <;> try (exfalso; omega)) | refine condW_not ?_ | (refine condW_bool ?_ ?_ <;> intro _ <;> try (exfalso; omega)) | (refine nbC_t (fun _ => ?_) ?_) | (refine nbC_f ?_ (fun _ => ?_)))
    | refine And.intro (by first | omega | (simp only [Int.toNat_natCast] at *; omega) | (simp only [Nat.reduceAdd, Int.cast_ofNat_Int, true_and, and_true]; omega) | kernel_rfl) ?_
    | refine RegW.run ?_
    | fail
  all_goals exact Dle.refl _ _
theorem idxN_sp (l : List Nm) (k : Nat) (hk : k ≤ 1000000) (x : Nm) : Sp (cx Try.prog mixed tyT_ok E) 18 [.sl 2 32 k (rowN l), .fn 10 [refN x]] (i64 (fstN l k x.1 0)) := by
  obtain ⟨r, hr⟩ : ∃ r, r = fstN l k x.1 0 := ⟨_, rfl⟩
  rw [← hr]
  refine Sp.body Try.func18 (by kernel_rfl) rfl (by kernel_rfl) (by kernel_rfl) (by kernel_rfl) ?_
  repeat' first
    | (refine codeW_cond rfl ?_; first | (refine condW_dec ?_ ?_ <;> intro _ <;> try (exfalso; omega)) | refine condW_not ?_ | (refine condW_bool ?_ ?_ <;> intro _ <;> try (exfalso; omega)))
    | (refine facW_intro ?_; intro _)
    | refine Or.inl ?_
    | ((conv => whnf); first | (refine condW_dec ?_ ?_ <;> intro _ <;> try (exfalso; omega)) | refine condW_not ?_ | (refine condW_bool ?_ ?_ <;> intro _ <;> try (exfalso; omega)) | (refine nbC_t (fun _ => ?_) ?_) | (refine nbC_f ?_ (fun _ => ?_)))
    | refine And.intro (by first | omega | (simp only [Int.toNat_natCast] at *; omega) | (simp only [Nat.reduceAdd, Int.cast_ofNat_Int, true_and, and_true]; omega) | kernel_rfl) ?_
    | refine RegW.run ?_
    | fail
  refine ⟨Nat, fun i => [(8, i64 i)], fun i => [], [], fun i => [], fun i => i ≤ k ∧ r = fstN l k x.1 i, fun i => k - i, ⟨0, ⟨by omega, hr⟩, ⟨[], ⟨by kernel_rfl, by kernel_rfl, by kernel_rfl, by kernel_rfl, by kernel_rfl, by kernel_rfl, by kernel_rfl⟩, (by repeat' first | exact trivial | exact rfl | kernel_rfl | exact Dle.of_eq rfl | exact MLe.of_eq rfl | exact Dle.i (by omega) | exact Dle.i (by simp only [Int.toNat_natCast] at *; omega) | exact Dle.nil | exact Dle.rc Dle.nil | exact Option.some_ne_none _ | exact Or.inl rfl | exact Or.inr trivial | omega | (simp only [Int.toNat_natCast] at *; omega) | (intro _ _ _ _; exact Dle.of_eq rfl) | refine And.intro ?_ ?_)⟩⟩, fun i hi => ?_⟩
  obtain ⟨hi, hK⟩ := hi
  by_cases hlt : i < k
  · have h1 := same_sp E x (l.getD ((i : Int)).toNat nz)
    by_cases hs : (l.getD ((i : Int)).toNat nz).1 = x.1
    · rw [decide_eq_true hs] at h1
      have e := fstN_at hlt hs
      repeat' first
        | (refine codeW_cond rfl ?_; first | (refine condW_dec ?_ ?_ <;> intro _ <;> try (exfalso; omega)) | refine condW_not ?_ | (refine condW_bool ?_ ?_ <;> intro _ <;> try (exfalso; omega)))
        | (refine facW_intro ?_; intro _)
        | refine Or.inl ?_
        | ((conv => whnf); first | (refine condW_dec ?_ ?_ <;> intro _ <;> try (exfalso; omega)) | refine condW_not ?_ | (refine condW_bool ?_ ?_ <;> intro _ <;> try (exfalso; omega)) | (refine nbC_t (fun _ => ?_) ?_) | (refine nbC_f ?_ (fun _ => ?_)))
        | refine And.intro (by first | omega | (simp only [Int.toNat_natCast] at *; omega) | (simp only [Nat.reduceAdd, Int.cast_ofNat_Int, true_and, and_true]; omega) | kernel_rfl) ?_
        | refine RegW.run ?_
        | refine ⟨_, h1, ?_⟩
        | fail
      all_goals first
        | (exfalso; rename_i h; cases h; done)
        | (rw [hK, e]; exact Dle.refl _ _)
        | trace_state
    · rw [decide_eq_false hs] at h1
      have e := fstN_next hlt hs
      repeat' first
        | (refine codeW_cond rfl ?_; first | (refine condW_dec ?_ ?_ <;> intro _ <;> try (exfalso; omega)) | refine condW_not ?_ | (refine condW_bool ?_ ?_ <;> intro _ <;> try (exfalso; omega)))
        | (refine facW_intro ?_; intro _)
        | refine Or.inl ?_
        | ((conv => whnf); first | (refine condW_dec ?_ ?_ <;> intro _ <;> try (exfalso; omega)) | refine condW_not ?_ | (refine condW_bool ?_ ?_ <;> intro _ <;> try (exfalso; omega)) | (refine nbC_t (fun _ => ?_) ?_) | (refine nbC_f ?_ (fun _ => ?_)))
        | refine And.intro (by first | omega | (simp only [Int.toNat_natCast] at *; omega) | (simp only [Nat.reduceAdd, Int.cast_ofNat_Int, true_and, and_true]; omega) | kernel_rfl) ?_
        | refine RegW.run ?_
        | refine ⟨_, h1, ?_⟩
        | fail
      all_goals first
        | (exfalso; rename_i h; cases h; done)
        | exact ⟨i + 1, ⟨by omega, hK.trans e⟩, ⟨[], ⟨by kernel_rfl, by kernel_rfl, by kernel_rfl, by kernel_rfl, by kernel_rfl, by kernel_rfl, by kernel_rfl⟩, (by repeat' first | exact trivial | exact rfl | kernel_rfl | exact Dle.of_eq rfl | exact MLe.of_eq rfl | exact Dle.i (by omega) | exact Dle.i (by simp only [Int.toNat_natCast] at *; omega) | exact Dle.nil | exact Dle.rc Dle.nil | exact Option.some_ne_none _ | exact Or.inl rfl | exact Or.inr trivial | omega | (simp only [Int.toNat_natCast] at *; omega) | (intro _ _ _ _; exact Dle.of_eq rfl) | refine And.intro ?_ ?_)⟩, by first | omega | (dsimp only; omega)⟩
        | trace_state
  · repeat' first
      | (refine codeW_cond rfl ?_; first | (refine condW_dec ?_ ?_ <;> intro _ <;> try (exfalso; omega)) | refine condW_not ?_ | (refine condW_bool ?_ ?_ <;> intro _ <;> try (exfalso; omega)))
      | (refine facW_intro ?_; intro _)
      | refine Or.inl ?_
      | ((conv => whnf); first | (refine condW_dec ?_ ?_ <;> intro _ <;> try (exfalso; omega)) | refine condW_not ?_ | (refine condW_bool ?_ ?_ <;> intro _ <;> try (exfalso; omega)) | (refine nbC_t (fun _ => ?_) ?_) | (refine nbC_f ?_ (fun _ => ?_)))
      | refine And.intro (by first | omega | (simp only [Int.toNat_natCast] at *; omega) | (simp only [Nat.reduceAdd, Int.cast_ofNat_Int, true_and, and_true]; omega) | kernel_rfl) ?_
      | refine RegW.run ?_
      | fail
    exact Dle.i (by rw [hK, fstN_end hlt])
theorem contN_sp (l : List Nm) (k : Nat) (hk : k ≤ l.length) (hl : l.length ≤ 1000000) (x : Nm) : Sp (cx Try.prog mixed tyT_ok E) 9 [.sl 2 32 k (rowN l), .fn 10 [refN x]] (dB (nmL (l.take k) x.1).isSome) := by
  have hi := idxN_sp E l k (by omega) x
  have e := fstN_some l x.1 hk (k + 1) 0 (by omega)
  rw [List.drop_zero] at e
  rw [← e]
  generalize fstN l k x.1 0 = r at hi
  refine Sp.body Try.func9 (by kernel_rfl) rfl (by kernel_rfl) (by kernel_rfl) (by kernel_rfl) ?_
  repeat' first
    | (refine codeW_cond rfl ?_; first | (refine condW_dec ?_ ?_ <;> intro _ <;> try (exfalso; omega)) | refine condW_not ?_ | (refine condW_bool ?_ ?_ <;> intro _ <;> try (exfalso; omega)))
    | (refine facW_intro ?_; intro _)
    | refine Or.inl ?_
    | ((conv => whnf); first | (refine condW_dec ?_ ?_ <;> intro _ <;> try (exfalso; omega)) | refine condW_not ?_ | (refine condW_bool ?_ ?_ <;> intro _ <;> try (exfalso; omega)) | (refine nbC_t (fun _ => ?_) ?_) | (refine nbC_f ?_ (fun _ => ?_)))
    | refine And.intro (by first | omega | (simp only [Int.toNat_natCast] at *; omega) | (simp only [Nat.reduceAdd, Int.cast_ofNat_Int, true_and, and_true]; omega) | kernel_rfl) ?_
    | refine RegW.run ?_
    | refine ⟨_, hi, ?_⟩
    | fail
  all_goals exact Dle.refl _ _
theorem nameOf_sp (l : List Nm) (hl : l.length ≤ 1000000) (p : ByteArray) : Sp (cx Try.prog mixed tyT_ok E) 13 [dS p, refNs l] (.tup [dS ((nmL l p).getD ⟨#[]⟩), dB (nmL l p).isSome]) := by
  obtain ⟨r, hr⟩ : ∃ r, r = nmL l p := ⟨_, rfl⟩
  rw [← hr]
  refine Sp.body Try.func13 (by kernel_rfl) rfl (by kernel_rfl) (by kernel_rfl) (by kernel_rfl) ?_
  repeat' first
    | (refine codeW_cond rfl ?_; first | (refine condW_dec ?_ ?_ <;> intro _ <;> try (exfalso; omega)) | refine condW_not ?_ | (refine condW_bool ?_ ?_ <;> intro _ <;> try (exfalso; omega)))
    | (refine facW_intro ?_; intro _)
    | refine Or.inl ?_
    | ((conv => whnf); first | (refine condW_dec ?_ ?_ <;> intro _ <;> try (exfalso; omega)) | refine condW_not ?_ | (refine condW_bool ?_ ?_ <;> intro _ <;> try (exfalso; omega)) | (refine nbC_t (fun _ => ?_) ?_) | (refine nbC_f ?_ (fun _ => ?_)))
    | refine And.intro (by first | omega | (simp only [Int.toNat_natCast] at *; omega) | (simp only [Nat.reduceAdd, Int.cast_ofNat_Int, true_and, and_true]; omega) | kernel_rfl) ?_
    | refine RegW.run ?_
    | fail
  refine ⟨Nat, fun i => [(9, i64 i)], fun i => [], [], fun i => [], fun i => i ≤ l.length ∧ r = nmL (l.drop i) p, fun i => l.length - i, ⟨0, ⟨by omega, by rw [hr, List.drop_zero]⟩, ⟨[], ⟨by kernel_rfl, by kernel_rfl, by kernel_rfl, by kernel_rfl, by kernel_rfl, by kernel_rfl, by kernel_rfl⟩, (by repeat' first | exact trivial | exact rfl | kernel_rfl | exact Dle.of_eq rfl | exact MLe.of_eq rfl | exact Dle.i (by omega) | exact Dle.i (by simp only [Int.toNat_natCast] at *; omega) | exact Dle.nil | exact Dle.rc Dle.nil | exact Option.some_ne_none _ | exact Or.inl rfl | exact Or.inr trivial | omega | (simp only [Int.toNat_natCast] at *; omega) | (intro _ _ _ _; exact Dle.of_eq rfl) | refine And.intro ?_ ?_)⟩⟩, fun i hi => ?_⟩
  obtain ⟨hi, hK⟩ := hi
  by_cases hlt : i < l.length
  · rw [drop_at hlt, nmL_cons] at hK
    by_cases hs : (l.getD ((i : Int)).toNat nz).1 = p
    · rw [if_pos (show (l.getD i nz).1 = p from hs)] at hK
      repeat' first
        | (refine codeW_cond rfl ?_; first | (refine condW_dec ?_ ?_ <;> intro _ <;> try (exfalso; omega)) | refine condW_not ?_ | (refine condW_bool ?_ ?_ <;> intro _ <;> try (exfalso; omega)))
        | (refine facW_intro ?_; intro _)
        | refine Or.inl ?_
        | ((conv => whnf); first | (refine condW_dec ?_ ?_ <;> intro _ <;> try (exfalso; omega)) | refine condW_not ?_ | (refine condW_bool ?_ ?_ <;> intro _ <;> try (exfalso; omega)) | (refine nbC_t (fun _ => ?_) ?_) | (refine nbC_f ?_ (fun _ => ?_)))
        | refine And.intro (by first | omega | (simp only [Int.toNat_natCast] at *; omega) | (simp only [Nat.reduceAdd, Int.cast_ofNat_Int, true_and, and_true]; omega) | kernel_rfl) ?_
        | refine RegW.run ?_
        | fail
      all_goals first
        | (exfalso; rename_i h; exact h hs)
        | (rw [hK]; exact Dle.refl _ _)
        | trace_state
    · rw [if_neg (show ¬ (l.getD i nz).1 = p from hs)] at hK
      repeat' first
        | (refine codeW_cond rfl ?_; first | (refine condW_dec ?_ ?_ <;> intro _ <;> try (exfalso; omega)) | refine condW_not ?_ | (refine condW_bool ?_ ?_ <;> intro _ <;> try (exfalso; omega)))
        | (refine facW_intro ?_; intro _)
        | refine Or.inl ?_
        | ((conv => whnf); first | (refine condW_dec ?_ ?_ <;> intro _ <;> try (exfalso; omega)) | refine condW_not ?_ | (refine condW_bool ?_ ?_ <;> intro _ <;> try (exfalso; omega)) | (refine nbC_t (fun _ => ?_) ?_) | (refine nbC_f ?_ (fun _ => ?_)))
        | refine And.intro (by first | omega | (simp only [Int.toNat_natCast] at *; omega) | (simp only [Nat.reduceAdd, Int.cast_ofNat_Int, true_and, and_true]; omega) | kernel_rfl) ?_
        | refine RegW.run ?_
        | fail
      all_goals first
        | (exfalso; rename_i h; exact hs h)
        | exact ⟨i + 1, ⟨by omega, hK⟩, ⟨[], ⟨by kernel_rfl, by kernel_rfl, by kernel_rfl, by kernel_rfl, by kernel_rfl, by kernel_rfl, by kernel_rfl⟩, (by repeat' first | exact trivial | exact rfl | kernel_rfl | exact Dle.of_eq rfl | exact MLe.of_eq rfl | exact Dle.i (by omega) | exact Dle.i (by simp only [Int.toNat_natCast] at *; omega) | exact Dle.nil | exact Dle.rc Dle.nil | exact Option.some_ne_none _ | exact Or.inl rfl | exact Or.inr trivial | omega | (simp only [Int.toNat_natCast] at *; omega) | (intro _ _ _ _; exact Dle.of_eq rfl) | refine And.intro ?_ ?_)⟩, by first | omega | (dsimp only; omega)⟩
        | trace_state
  · rw [List.drop_eq_nil_of_le (by omega)] at hK
    repeat' first
      | (refine codeW_cond rfl ?_; first | (refine condW_dec ?_ ?_ <;> intro _ <;> try (exfalso; omega)) | refine condW_not ?_ | (refine condW_bool ?_ ?_ <;> intro _ <;> try (exfalso; omega)))
      | (refine facW_intro ?_; intro _)
      | refine Or.inl ?_
      | ((conv => whnf); first | (refine condW_dec ?_ ?_ <;> intro _ <;> try (exfalso; omega)) | refine condW_not ?_ | (refine condW_bool ?_ ?_ <;> intro _ <;> try (exfalso; omega)) | (refine nbC_t (fun _ => ?_) ?_) | (refine nbC_f ?_ (fun _ => ?_)))
      | refine And.intro (by first | omega | (simp only [Int.toNat_natCast] at *; omega) | (simp only [Nat.reduceAdd, Int.cast_ofNat_Int, true_and, and_true]; omega) | kernel_rfl) ?_
      | refine RegW.run ?_
      | fail
    all_goals first
      | (rw [hK]; exact Dle.refl _ _)
      | trace_state
set_option maxHeartbeats 8000000 in
theorem relinkedR_sp (hML : ∀ w, E.G w → ML w) (s : ByteArray) (l : List Nm) (hl : l.length ≤ 1000000) (hs : s.size ≤ 20000) (he : (linksE s).e = 0) (hnm : ∀ p x, nmL l p = some x → x.size ≤ 1048576) : Sp (cx Try.prog mixed tyT_ok E) 12 [dS s, .fn 13 [refNs l]] (dS (rlS s (nmL l) (linksE s).l)) := by
  have h1 := linksOf_sp E hML s
  obtain ⟨ho, hL⟩ := links_ord s
  have hps := links_path s
  generalize linksE s = q at *
  unfold encLs at h1
  obtain ⟨L, a0, e0⟩ := q
  simp only at h1 ho hL hps he ⊢
  have hsz := rlK_at (nm := nmL l) ho
  have hmx := szK_max (nm := nmL l) ho hnm
  refine Sp.body Try.func12 (by kernel_rfl) rfl (by kernel_rfl) (by kernel_rfl) (by kernel_rfl) ?_
  repeat' first
    | (refine codeW_cond rfl ?_; first | (refine condW_dec ?_ ?_ <;> intro _ <;> try (exfalso; omega)) | refine condW_not ?_ | (refine condW_bool ?_ ?_ <;> intro _ <;> try (exfalso; omega)))
    | (refine facW_intro ?_; intro _)
    | refine Or.inl ?_
    | ((conv => whnf); first | (refine condW_dec ?_ ?_ <;> intro _ <;> try (exfalso; omega)) | refine condW_not ?_ | (refine condW_bool ?_ ?_ <;> intro _ <;> try (exfalso; omega)) | (refine nbC_t (fun _ => ?_) ?_) | (refine nbC_f ?_ (fun _ => ?_)))
    | refine And.intro (by first | omega | (simp only [Int.toNat_natCast] at *; omega) | (simp only [Nat.reduceAdd, Int.cast_ofNat_Int, true_and, and_true]; omega) | kernel_rfl) ?_
    | refine RegW.run ?_
    | refine ⟨_, h1, ?_⟩
    | fail
  refine ⟨Nat, fun j => [(22, i64 j), (8, dS (rlK s (nmL l) L j).1), (9, i64 (rlK s (nmL l) L j).2)], fun j => [], [], fun j => [], fun j => j ≤ L.length, fun j => L.length - j, ⟨0, Nat.zero_le _, ⟨[], ⟨by kernel_rfl, by kernel_rfl, by kernel_rfl, by kernel_rfl, by kernel_rfl, by kernel_rfl, by kernel_rfl⟩, (by repeat' first | exact trivial | exact rfl | kernel_rfl | exact Dle.of_eq rfl | exact MLe.of_eq rfl | exact Dle.i (by omega) | exact Dle.i (by simp only [Int.toNat_natCast] at *; omega) | exact Dle.nil | exact Dle.rc Dle.nil | exact Option.some_ne_none _ | exact Or.inl rfl | exact Or.inr trivial | omega | (simp only [Int.toNat_natCast] at *; omega) | (intro _ _ _ _; exact Dle.of_eq rfl) | refine And.intro ?_ ?_)⟩⟩, fun j hj => ?_⟩
  have hj : j ≤ L.length := hj
  obtain ⟨z1, z2, z3⟩ := hsz j hj
  have z4 := hmx j hj
  by_cases hjl : j < L.length
  · have z5 := z3 j (Nat.le_refl _) hjl
    obtain ⟨f, e, hf, he, hfe, hes, _⟩ := ho j hjl
    have hf' : (L.getD ((j : Int)).toNat .zero).f = f := hf
    have he' : (L.getD ((j : Int)).toNat .zero).e = e := he
    have h2 := nameOf_sp E l hl (L.getD ((j : Int)).toNat .zero).p
    have hpj : nmL l (L.getD ((j : Int)).toNat .zero).p = nmL l (L.getD j .zero).p := rfl
    rw [hpj] at h2
    cases hnn : nmL l (L.getD j .zero).p with
    | none =>
      have e1 := (rlK_no (s := s) (nm := nmL l) (l := L) hnn).1
      rw [hnn] at h2
      simp only [Option.isSome_none, Option.getD_none] at h2
      repeat' first
        | (refine codeW_cond rfl ?_; first | (refine condW_dec ?_ ?_ <;> intro _ <;> try (exfalso; omega)) | refine condW_not ?_ | (refine condW_bool ?_ ?_ <;> intro _ <;> try (exfalso; omega)))
        | (refine facW_intro ?_; intro _)
        | refine Or.inl ?_
        | ((conv => whnf); first | (refine condW_dec ?_ ?_ <;> intro _ <;> try (exfalso; omega)) | refine condW_not ?_ | (refine condW_bool ?_ ?_ <;> intro _ <;> try (exfalso; omega)) | (refine nbC_t (fun _ => ?_) ?_) | (refine nbC_f ?_ (fun _ => ?_)))
        | refine And.intro (by first | omega | (simp only [Int.toNat_natCast] at *; omega) | (simp only [Nat.reduceAdd, Int.cast_ofNat_Int, true_and, and_true]; omega) | kernel_rfl) ?_
        | refine RegW.run ?_
        | refine ⟨_, h2, ?_⟩
        | fail
      all_goals first
        | (exfalso; rename_i h; cases h; done)
        | exact ⟨j + 1, by omega, ⟨[], ⟨by kernel_rfl, by kernel_rfl, by kernel_rfl, by kernel_rfl, by kernel_rfl, by kernel_rfl, by kernel_rfl⟩, (by repeat' first | ((rw [e1]; exact Dle.refl _ _)) | exact trivial | exact rfl | kernel_rfl | exact Dle.of_eq rfl | exact MLe.of_eq rfl | exact Dle.i (by omega) | exact Dle.i (by simp only [Int.toNat_natCast] at *; omega) | exact Dle.nil | exact Dle.rc Dle.nil | exact Option.some_ne_none _ | exact Or.inl rfl | exact Or.inr trivial | omega | (simp only [Int.toNat_natCast] at *; omega) | (intro _ _ _ _; exact Dle.of_eq rfl) | refine And.intro ?_ ?_)⟩, by first | omega | (dsimp only; omega)⟩
        | trace_state
    | some n =>
      have e1 := (rlK_yes (s := s) (nm := nmL l) (l := L) hnn).1
      have hn9 := hnm _ _ hnn
      rw [hnn] at h2
      simp only [Option.isSome_some, Option.getD_some] at h2
      have x1 : (s.extract (rlK s (nmL l) L j).2 f).size ≤ 20000 := by rw [ByteArray.size_extract]; omega
      have x2 : (s.extract (((rlK s (nmL l) L j).2 : Nat) : Int).toNat ((L.getD ((j : Int)).toNat .zero).f).toNat).size ≤ 20000 := by rw [ByteArray.size_extract]; omega
      have x3 : ((s.extract (((rlK s (nmL l) L j).2 : Nat) : Int).toNat ((L.getD ((j : Int)).toNat .zero).f).toNat) ++ n).size ≤ 20000 + 1048576 := by rw [ByteArray.size_append]; omega
      repeat' first
        | (refine codeW_cond rfl ?_; first | (refine condW_dec ?_ ?_ <;> intro _ <;> try (exfalso; omega)) | refine condW_not ?_ | (refine condW_bool ?_ ?_ <;> intro _ <;> try (exfalso; omega)))
        | (refine facW_intro ?_; intro _)
        | refine Or.inl ?_
        | ((conv => whnf); first | (refine condW_dec ?_ ?_ <;> intro _ <;> try (exfalso; omega)) | refine condW_not ?_ | (refine condW_bool ?_ ?_ <;> intro _ <;> try (exfalso; omega)) | (refine nbC_t (fun _ => ?_) ?_) | (refine nbC_f ?_ (fun _ => ?_)))
        | refine And.intro (by first | omega | (simp only [Int.toNat_natCast] at *; omega) | (simp only [Nat.reduceAdd, Int.cast_ofNat_Int, true_and, and_true]; omega) | kernel_rfl) ?_
        | refine RegW.run ?_
        | refine ⟨_, h2, ?_⟩
        | fail
      all_goals first
        | (exfalso; rename_i h; exact absurd rfl h)
        | exact ⟨j + 1, by omega, ⟨[], ⟨by kernel_rfl, by kernel_rfl, by kernel_rfl, by kernel_rfl, by kernel_rfl, by kernel_rfl, by kernel_rfl⟩, (by repeat' first | ((first | exact Dle.i (by rw [e1]; simp only [he'] at *; omega) | (rw [e1]; exact Dle.refl _ _))) | exact trivial | exact rfl | kernel_rfl | exact Dle.of_eq rfl | exact MLe.of_eq rfl | exact Dle.i (by omega) | exact Dle.i (by simp only [Int.toNat_natCast] at *; omega) | exact Dle.nil | exact Dle.rc Dle.nil | exact Option.some_ne_none _ | exact Or.inl rfl | exact Or.inr trivial | omega | (simp only [Int.toNat_natCast] at *; omega) | (intro _ _ _ _; exact Dle.of_eq rfl) | refine And.intro ?_ ?_)⟩, by first | omega | (dsimp only; omega)⟩
        | trace_state
  · obtain rfl : j = L.length := by omega
    have x1 : (s.extract (((rlK s (nmL l) L L.length).2 : Nat) : Int).toNat s.size).size ≤ 20000 := by rw [ByteArray.size_extract]; omega
    repeat' first
      | (refine codeW_cond rfl ?_; first | (refine condW_dec ?_ ?_ <;> intro _ <;> try (exfalso; omega)) | refine condW_not ?_ | (refine condW_bool ?_ ?_ <;> intro _ <;> try (exfalso; omega)))
      | (refine facW_intro ?_; intro _)
      | refine Or.inl ?_
      | ((conv => whnf); first | (refine condW_dec ?_ ?_ <;> intro _ <;> try (exfalso; omega)) | refine condW_not ?_ | (refine condW_bool ?_ ?_ <;> intro _ <;> try (exfalso; omega)) | (refine nbC_t (fun _ => ?_) ?_) | (refine nbC_f ?_ (fun _ => ?_)))
      | refine And.intro (by first | omega | (simp only [Int.toNat_natCast] at *; omega) | (simp only [Nat.reduceAdd, Int.cast_ofNat_Int, true_and, and_true]; omega) | kernel_rfl) ?_
      | refine RegW.run ?_
      | fail
    all_goals first
      | exact Dle.refl _ _
      | trace_state
end
end rl
end Go.Proofs.Ytiiohopjkepkgaa
