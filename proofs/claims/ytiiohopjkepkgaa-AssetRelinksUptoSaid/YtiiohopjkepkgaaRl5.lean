/-
  Names put for the paths of links: mastref2.RelinkOf over data; the law.
-/
import Derived.Test.YtiiohopjkepkgaaRl4
namespace Go.Proofs.Ytiiohopjkepkgaa
open Go.RowKit
set_option linter.unusedVariables false
set_option linter.unusedSimpArgs false
namespace rl
open tk
theorem badC_int (s : ByteArray) (k : Nat) : badC (at_ s k) = (decide (((bAt s k).toNat : Int) < 33) || (decide (((bAt s k).toNat : Int) = 34) || (decide (((bAt s k).toNat : Int) = 39) || (decide (((bAt s k).toNat : Int) = 92) || decide (((bAt s k).toNat : Int) = 127))))) := by
  unfold badC at_
  congr 1
  · exact decide_eq_decide.2 (by omega)
  · congr 1
    · exact decide_eq_decide.2 (by omega)
    · congr 1
      · exact decide_eq_decide.2 (by omega)
      · congr 1 <;> exact decide_eq_decide.2 (by omega)
theorem linksE_err {s : ByteArray} (h : (toksE s false).e ≠ 0) : linksE s = ⟨[], (toksE s false).at', (toksE s false).e⟩ := by unfold linksE; rw [if_pos h]
theorem linksE_ok {s : ByteArray} (h : (toksE s false).e = 0) : (linksE s).e = 0 := by unfold linksE; rw [if_neg (by omega)]
section
variable (E : Env)
set_option maxRecDepth 100000
set_option maxHeartbeats 8000000 in
theorem relinkOf_sp (hML : ∀ w, E.G w → ML w) (s : ByteArray) (l : List Nm) (hn : ∀ x ∈ l, x.2.size ≤ 1048576) : Sp (cx Try.prog mixed tyT_ok E) 5 [dS s, encNs l] (encRl (relE s l)) := by
  obtain ⟨r, hr⟩ : ∃ r, r = relE s l := ⟨_, rfl⟩
  rw [← hr]
  unfold relE at hr
  have h1 := tokensOf_sp E hML s false
  obtain ⟨ho, hL⟩ := links_ord s
  have hnm : ∀ p x, nmL l p = some x → x.size ≤ 1048576 := fun p x h => by
    obtain ⟨k, hk, rfl⟩ := nmL_mem h
    refine hn _ ?_
    rw [List.getD_eq_getElem?_getD, List.getElem?_eq_getElem hk]
    exact List.getElem_mem _
  have hsz := rlS_size (nm := nmL l) ho
  have hmx := szK_max (nm := nmL l) ho hnm _ (Nat.le_refl _)
  by_cases hbig : 20000 < s.size ∨ 40 < l.length
  · rw [if_pos hbig] at hr
    refine Sp.body Try.func5 (by kernel_rfl) rfl (by kernel_rfl) (by kernel_rfl) (by kernel_rfl) ?_
    repeat' first
      | (refine codeW_cond rfl ?_; first | (refine condW_dec ?_ ?_ <;> intro _ <;> try (exfalso; omega)) | refine condW_not ?_ | (refine condW_bool ?_ ?_ <;> intro _ <;> try (exfalso; omega)))
      | (refine facW_intro ?_; intro _)
      | refine Or.inl ?_
      | ((conv => whnf); first | (refine condW_dec ?_ ?_ <;> intro _ <;> try (exfalso; omega)) | refine condW_not ?_ | (refine condW_bool ?_ ?_ <;> intro _ <;> try (exfalso; omega)) | (refine nbC_t (fun _ => ?_) ?_) | (refine nbC_f ?_ (fun _ => ?_)))
      | refine And.intro (by first | omega | (simp only [Int.toNat_natCast] at *; omega) | (simp only [Nat.reduceAdd, Int.cast_ofNat_Int, true_and, and_true]; omega) | kernel_rfl) ?_
      | refine RegW.run ?_
      | fail
    all_goals first
      | (exfalso; omega)
      | (rw [hr]; exact Dle.refl _ _)
      | trace_state
  · rw [if_neg hbig] at hr
    have h3 := fun he => relinkedR_sp E hML s l (by omega) (by omega) he hnm
    refine Sp.body Try.func5 (by kernel_rfl) rfl (by kernel_rfl) (by kernel_rfl) (by kernel_rfl) ?_
    repeat' first
      | (refine codeW_cond rfl ?_; first | (refine condW_dec ?_ ?_ <;> intro _ <;> try (exfalso; omega)) | refine condW_not ?_ | (refine condW_bool ?_ ?_ <;> intro _ <;> try (exfalso; omega)))
      | (refine facW_intro ?_; intro _)
      | refine Or.inl ?_
      | ((conv => whnf); first | (refine condW_dec ?_ ?_ <;> intro _ <;> try (exfalso; omega)) | refine condW_not ?_ | (refine condW_bool ?_ ?_ <;> intro _ <;> try (exfalso; omega)) | (refine nbC_t (fun _ => ?_) ?_) | (refine nbC_f ?_ (fun _ => ?_)))
      | refine And.intro (by first | omega | (simp only [Int.toNat_natCast] at *; omega) | (simp only [Nat.reduceAdd, Int.cast_ofNat_Int, true_and, and_true]; omega) | kernel_rfl) ?_
      | refine RegW.run ?_
      | fail
    all_goals try (exfalso; omega)
    refine ⟨Nat, fun k => [(23, i64 k)], fun k => [], [3], fun k => [], fun k => k ≤ l.length ∧ nmE l 0 = nmE l k, fun k => l.length - k, ⟨0, ⟨Nat.zero_le _, rfl⟩, ⟨[], ⟨by kernel_rfl, by kernel_rfl, by kernel_rfl, by kernel_rfl, by kernel_rfl, by kernel_rfl, by kernel_rfl⟩, (by repeat' first | exact trivial | exact rfl | kernel_rfl | exact Dle.of_eq rfl | exact MLe.of_eq rfl | exact Dle.i (by omega) | exact Dle.i (by simp only [Int.toNat_natCast] at *; omega) | exact Dle.nil | exact Dle.rc Dle.nil | exact Option.some_ne_none _ | exact Or.inl rfl | exact Or.inr trivial | omega | (simp only [Int.toNat_natCast] at *; omega) | (intro _ _ _ _; exact Dle.of_eq rfl) | refine And.intro ?_ ?_)⟩⟩, fun k hk => ?_⟩
    obtain ⟨hk, hE⟩ := hk
    by_cases hlt : k < l.length
    · have hc := contN_sp E l ((k : Int)).toNat hk (by omega) (l.getD ((k : Int)).toNat nz)
      have hcd : (nmL (l.take ((k : Int)).toNat) (l.getD ((k : Int)).toNat nz).1).isSome = dupN l k := rfl
      rw [hcd] at hc
      have n1 := nmE_dup hlt
      have n2 := nmE_bad hlt
      have n3 := nmE_next hlt
      cases hdk : dupN l k
      · rw [hdk] at hc
        have n2 := n2 hdk
        have n3 := n3 hdk
        repeat' first
          | (refine codeW_cond rfl ?_; first | (refine condW_dec ?_ ?_ <;> intro _ <;> try (exfalso; omega)) | refine condW_not ?_ | (refine condW_bool ?_ ?_ <;> intro _ <;> try (exfalso; omega)))
          | (refine facW_intro ?_; intro _)
          | refine Or.inl ?_
          | ((conv => whnf); first | (refine condW_dec ?_ ?_ <;> intro _ <;> try (exfalso; omega)) | refine condW_not ?_ | (refine condW_bool ?_ ?_ <;> intro _ <;> try (exfalso; omega)) | (refine nbC_t (fun _ => ?_) ?_) | (refine nbC_f ?_ (fun _ => ?_)))
          | refine And.intro (by first | omega | (simp only [Int.toNat_natCast] at *; omega) | (simp only [Nat.reduceAdd, Int.cast_ofNat_Int, true_and, and_true]; omega) | kernel_rfl) ?_
          | refine RegW.run ?_
          | refine ⟨_, hc, ?_⟩
          | fail
        all_goals try (exfalso; rename_i h; cases h; done)
        refine ⟨Nat, fun j => [(9, i64 j)], fun j => [], [3, 8], fun j => [], fun j => j ≤ (l.getD k nz).2.size ∧ allN j (fun i => decide (badC (at_ (l.getD k nz).2 i) = false)) = true, fun j => (l.getD k nz).2.size - j, ⟨0, ⟨Nat.zero_le _, rfl⟩, ⟨[], ⟨by kernel_rfl, by kernel_rfl, by kernel_rfl, by kernel_rfl, by kernel_rfl, by kernel_rfl, by kernel_rfl⟩, (by repeat' first | exact trivial | exact rfl | kernel_rfl | exact Dle.of_eq rfl | exact MLe.of_eq rfl | exact Dle.i (by omega) | exact Dle.i (by simp only [Int.toNat_natCast] at *; omega) | exact Dle.nil | exact Dle.rc Dle.nil | exact Option.some_ne_none _ | exact Or.inl rfl | exact Or.inr trivial | omega | (simp only [Int.toNat_natCast] at *; omega) | (intro _ _ _ _; exact Dle.of_eq rfl) | refine And.intro ?_ ?_)⟩⟩, fun j hj => ?_⟩
        obtain ⟨hj, ha⟩ := hj
        have hcc := badC_int (l.getD ((k : Int)).toNat nz).2 ((j : Int)).toNat
        have hcc2 : badC (at_ (l.getD ((k : Int)).toNat nz).2 ((j : Int)).toNat) = badC (at_ (l.getD k nz).2 j) := rfl
        rw [hcc2] at hcc
        have hjz : (l.getD ((k : Int)).toNat nz).2.size = (l.getD k nz).2.size := rfl
        by_cases hjl : j < (l.getD k nz).2.size
        · repeat' first
            | (refine codeW_cond rfl ?_; first | (refine condW_dec ?_ ?_ <;> intro _ <;> try (exfalso; omega)) | refine condW_not ?_ | (refine condW_bool ?_ ?_ <;> intro _ <;> try (exfalso; omega)))
            | (refine facW_intro ?_; intro _)
            | refine Or.inl ?_
            | ((conv => whnf); first | (refine condW_dec ?_ ?_ <;> intro _ <;> try (exfalso; omega)) | refine condW_not ?_ | (refine condW_bool ?_ ?_ <;> intro _ <;> try (exfalso; omega)) | (refine nbC_t (fun _ => ?_) ?_) | (refine nbC_f ?_ (fun _ => ?_)))
            | refine And.intro (by first | omega | (simp only [Int.toNat_natCast] at *; omega) | (simp only [Nat.reduceAdd, Int.cast_ofNat_Int, true_and, and_true]; omega) | kernel_rfl) ?_
            | refine RegW.run ?_
            | fail
          all_goals first
            | (rename_i h
               have h9 : badC (at_ (l.getD k nz).2 j) = false := by
                 rw [hcc]
                 simp only [Bool.or_eq_false_iff, decide_eq_false_iff_not]
                 refine ⟨by assumption, by assumption, by assumption, by assumption, by assumption⟩
               exact ⟨j + 1, ⟨by omega, allN_succ ha (decide_eq_true h9)⟩, ⟨[], ⟨by kernel_rfl, by kernel_rfl, by kernel_rfl, by kernel_rfl, by kernel_rfl, by kernel_rfl, by kernel_rfl⟩, (by repeat' first | exact trivial | exact rfl | kernel_rfl | exact Dle.of_eq rfl | exact MLe.of_eq rfl | exact Dle.i (by omega) | exact Dle.i (by simp only [Int.toNat_natCast] at *; omega) | exact Dle.nil | exact Dle.rc Dle.nil | exact Option.some_ne_none _ | exact Or.inl rfl | exact Or.inr trivial | omega | (simp only [Int.toNat_natCast] at *; omega) | (intro _ _ _ _; exact Dle.of_eq rfl) | refine And.intro ?_ ?_)⟩, by first | omega | (dsimp only; omega)⟩)
            | (rename_i h
               have h9 : badC (at_ (l.getD k nz).2 j) = true := by
                 rw [hcc]
                 simp only [Bool.or_eq_true, decide_eq_true_eq]
                 first | exact .inl (by assumption) | exact .inr (.inl (by assumption)) | exact .inr (.inr (.inl (by assumption))) | exact .inr (.inr (.inr (.inl (by assumption)))) | exact .inr (.inr (.inr (.inr (by assumption))))
               have hr2 : r = errL 0 9 := by rw [hE, n2 (badN_yes hjl h9), if_pos (by decide)] at hr; exact hr
               rw [hr2]
               exact Dle.refl _ _)
            | (exfalso; omega)
            | trace_state
        · obtain rfl : j = (l.getD k nz).2.size := by omega
          have n3 := n3 (badN_no ha)
          repeat' first
            | (refine codeW_cond rfl ?_; first | (refine condW_dec ?_ ?_ <;> intro _ <;> try (exfalso; omega)) | refine condW_not ?_ | (refine condW_bool ?_ ?_ <;> intro _ <;> try (exfalso; omega)))
            | (refine facW_intro ?_; intro _)
            | refine Or.inl ?_
            | ((conv => whnf); first | (refine condW_dec ?_ ?_ <;> intro _ <;> try (exfalso; omega)) | refine condW_not ?_ | (refine condW_bool ?_ ?_ <;> intro _ <;> try (exfalso; omega)) | (refine nbC_t (fun _ => ?_) ?_) | (refine nbC_f ?_ (fun _ => ?_)))
            | refine And.intro (by first | omega | (simp only [Int.toNat_natCast] at *; omega) | (simp only [Nat.reduceAdd, Int.cast_ofNat_Int, true_and, and_true]; omega) | kernel_rfl) ?_
            | refine RegW.run ?_
            | fail
          all_goals first
            | exact ⟨k + 1, ⟨by omega, hE.trans n3⟩, ⟨[], ⟨by kernel_rfl, by kernel_rfl, by kernel_rfl, by kernel_rfl, by kernel_rfl, by kernel_rfl, by kernel_rfl⟩, (by repeat' first | exact trivial | exact rfl | kernel_rfl | exact Dle.of_eq rfl | exact MLe.of_eq rfl | exact Dle.i (by omega) | exact Dle.i (by simp only [Int.toNat_natCast] at *; omega) | exact Dle.nil | exact Dle.rc Dle.nil | exact Option.some_ne_none _ | exact Or.inl rfl | exact Or.inr trivial | omega | (simp only [Int.toNat_natCast] at *; omega) | (intro _ _ _ _; exact Dle.of_eq rfl) | refine And.intro ?_ ?_)⟩, by first | omega | (dsimp only; omega)⟩
            | (exfalso; omega)
            | trace_state
      · rw [hdk] at hc
        have n1 := n1 hdk
        have hr2 : r = errL 0 6 := by rw [hE, n1, if_pos (by decide)] at hr; exact hr
        repeat' first
          | (refine codeW_cond rfl ?_; first | (refine condW_dec ?_ ?_ <;> intro _ <;> try (exfalso; omega)) | refine condW_not ?_ | (refine condW_bool ?_ ?_ <;> intro _ <;> try (exfalso; omega)))
          | (refine facW_intro ?_; intro _)
          | refine Or.inl ?_
          | ((conv => whnf); first | (refine condW_dec ?_ ?_ <;> intro _ <;> try (exfalso; omega)) | refine condW_not ?_ | (refine condW_bool ?_ ?_ <;> intro _ <;> try (exfalso; omega)) | (refine nbC_t (fun _ => ?_) ?_) | (refine nbC_f ?_ (fun _ => ?_)))
          | refine And.intro (by first | omega | (simp only [Int.toNat_natCast] at *; omega) | (simp only [Nat.reduceAdd, Int.cast_ofNat_Int, true_and, and_true]; omega) | kernel_rfl) ?_
          | refine RegW.run ?_
          | refine ⟨_, hc, ?_⟩
          | fail
        all_goals first
          | (exfalso; rename_i h; cases h; done)
          | (rw [hr2]; exact Dle.refl _ _)
          | trace_state
    · obtain rfl : k = l.length := by omega
      have hE0 : nmE l 0 = 0 := hE.trans (nmE_end hlt)
      rw [if_neg (by rw [hE0]; decide)] at hr
      by_cases he : (toksE s false).e ≠ 0
      · rw [linksE_err he] at hr
        simp only at hr
        rw [if_pos he] at hr
        clear hsz hmx h3 ho hL
        generalize toksE s false = q at *
        unfold encPs at h1
        repeat' first
          | (refine codeW_cond rfl ?_; first | (refine condW_dec ?_ ?_ <;> intro _ <;> try (exfalso; omega)) | refine condW_not ?_ | (refine condW_bool ?_ ?_ <;> intro _ <;> try (exfalso; omega)))
          | (refine facW_intro ?_; intro _)
          | refine Or.inl ?_
          | ((conv => whnf); first | (refine condW_dec ?_ ?_ <;> intro _ <;> try (exfalso; omega)) | refine condW_not ?_ | (refine condW_bool ?_ ?_ <;> intro _ <;> try (exfalso; omega)) | (refine nbC_t (fun _ => ?_) ?_) | (refine nbC_f ?_ (fun _ => ?_)))
          | refine And.intro (by first | omega | (simp only [Int.toNat_natCast] at *; omega) | (simp only [Nat.reduceAdd, Int.cast_ofNat_Int, true_and, and_true]; omega) | kernel_rfl) ?_
          | refine RegW.run ?_
          | refine ⟨_, h1, ?_⟩
          | fail
        all_goals first
          | (exfalso; rename_i h; exact he h)
          | (rw [hr]; exact Dle.refl _ _)
          | trace_state
      · have he : (toksE s false).e = 0 := by omega
        have he2 := linksE_ok he
        rw [if_neg (by rw [he2]; decide)] at hr
        have h3 := h3 he2
        rw [← hsz] at hr
        have hz9 : (rlS s (nmL l) (linksE s).l).size ≤ 22000000000 := by omega
        clear ho hL hmx hsz he2
        generalize rlS s (nmL l) (linksE s).l = out at hr h3 hz9
        generalize toksE s false = q at *
        unfold encPs at h1
        obtain ⟨ql, qa, qe⟩ := q
        simp only at he
        subst he
        by_cases hbg : 200000 < (out.size : Int)
        · rw [if_pos hbg] at hr
          repeat' first
            | (refine codeW_cond rfl ?_; first | (refine condW_dec ?_ ?_ <;> intro _ <;> try (exfalso; omega)) | refine condW_not ?_ | (refine condW_bool ?_ ?_ <;> intro _ <;> try (exfalso; omega)))
            | (refine facW_intro ?_; intro _)
            | refine Or.inl ?_
            | ((conv => whnf); first | (refine condW_dec ?_ ?_ <;> intro _ <;> try (exfalso; omega)) | refine condW_not ?_ | (refine condW_bool ?_ ?_ <;> intro _ <;> try (exfalso; omega)) | (refine nbC_t (fun _ => ?_) ?_) | (refine nbC_f ?_ (fun _ => ?_)))
            | refine And.intro (by first | omega | (simp only [Int.toNat_natCast] at *; omega) | (simp only [Nat.reduceAdd, Int.cast_ofNat_Int, true_and, and_true]; omega) | kernel_rfl) ?_
            | refine RegW.run ?_
            | refine ⟨_, h1, ?_⟩
            | refine ⟨_, h3, ?_⟩
            | fail
          all_goals first
            | (exfalso; rename_i h; exact h rfl)
            | (exfalso; omega)
            | (rw [hr]; exact Dle.refl _ _)
            | trace_state
        · rw [if_neg hbg] at hr
          repeat' first
            | (refine codeW_cond rfl ?_; first | (refine condW_dec ?_ ?_ <;> intro _ <;> try (exfalso; omega)) | refine condW_not ?_ | (refine condW_bool ?_ ?_ <;> intro _ <;> try (exfalso; omega)))
            | (refine facW_intro ?_; intro _)
            | refine Or.inl ?_
            | ((conv => whnf); first | (refine condW_dec ?_ ?_ <;> intro _ <;> try (exfalso; omega)) | refine condW_not ?_ | (refine condW_bool ?_ ?_ <;> intro _ <;> try (exfalso; omega)) | (refine nbC_t (fun _ => ?_) ?_) | (refine nbC_f ?_ (fun _ => ?_)))
            | refine And.intro (by first | omega | (simp only [Int.toNat_natCast] at *; omega) | (simp only [Nat.reduceAdd, Int.cast_ofNat_Int, true_and, and_true]; omega) | kernel_rfl) ?_
            | refine RegW.run ?_
            | refine ⟨_, h1, ?_⟩
            | refine ⟨_, h3, ?_⟩
            | fail
          all_goals first
            | (exfalso; rename_i h; exact h rfl)
            | (exfalso; omega)
            | (rw [hr]; exact Dle.refl _ _)
            | trace_state
theorem assetRelinks_sp (hML : ∀ w, E.G w → ML w) (s : ByteArray) (l : List Nm) (hn : ∀ x ∈ l, x.2.size ≤ 1048576) : Sp (cx Try.prog mixed tyT_ok E) 3 [dS s, encNs l] (dB true) := by
  have h1 := relink_sp E hML s l hn
  have h3 := relinkOf_sp E hML s l hn
  generalize relE s l = r at h1 h3
  unfold encRl at *
  refine Sp.body Try.func3 (by kernel_rfl) rfl (by kernel_rfl) (by kernel_rfl) (by kernel_rfl) ?_
  repeat' first
    | (refine codeW_cond rfl ?_; first | (refine condW_dec ?_ ?_ <;> intro _ <;> try (exfalso; omega)) | refine condW_not ?_ | (refine condW_bool ?_ ?_ <;> intro _ <;> try (exfalso; omega)))
    | (refine facW_intro ?_; intro _)
    | refine Or.inl ?_
    | ((conv => whnf); first | (refine condW_dec ?_ ?_ <;> intro _ <;> try (exfalso; omega)) | refine condW_not ?_ | (refine condW_bool ?_ ?_ <;> intro _ <;> try (exfalso; omega)) | (refine nbC_t (fun _ => ?_) ?_) | (refine nbC_f ?_ (fun _ => ?_)))
    | refine And.intro (by first | omega | (simp only [Int.toNat_natCast] at *; omega) | (simp only [Nat.reduceAdd, Int.cast_ofNat_Int, true_and, and_true]; omega) | kernel_rfl) ?_
    | refine RegW.run ?_
    | refine ⟨_, h1, ?_⟩
    | refine ⟨_, h3, ?_⟩
    | fail
  all_goals first
    | (exfalso; rename_i h; exact h rfl)
    | exact Dle.bo (by simp)
    | trace_state
end
end rl
end Go.Proofs.Ytiiohopjkepkgaa
