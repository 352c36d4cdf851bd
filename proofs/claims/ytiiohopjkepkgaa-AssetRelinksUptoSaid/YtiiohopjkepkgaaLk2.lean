/-
  Links of a style: mastref2.LinksOf; the law.
-/
import Derived.Test.YtiiohopjkepkgaaLk1
import Derived.Test.YtiiohopjkepkgaaTkC
namespace Go.Proofs.Ytiiohopjkepkgaa
open Go.RowKit
set_option linter.unusedVariables false
set_option linter.unusedSimpArgs false
namespace tk
section
variable (E : Env)
set_option maxRecDepth 100000
theorem row_pos (l : List Tk) (k : Nat) (a : Int) (ha : (l.getD k .zero).f = a) (i j : Nat) (hi : i < k + 1) (hj : j < 1) : Dle (cx Try.prog mixed tyT_ok E) (if i < k then i64 (l.getD i .zero).f else ([i64 a] : List DD).getD ((i - k + 0) * 1 + j) .opq) (i64 (l.getD i .zero).f) := by
  obtain rfl : j = 0 := by omega
  rcases Nat.lt_or_ge i k with h | h
  · rw [if_pos h]; exact Dle.refl _ _
  · obtain rfl : i = k := by omega
    rw [if_neg (by omega), ha]
    exact Dle.of_eq (by simp [List.getD])
set_option maxHeartbeats 8000000 in
theorem positions_sp (hML : ∀ w, E.G w → ML w) (s : ByteArray) (l : List Tk) (hs : s.size ≤ 20000) (hok : AllOk s false l) (hl : l.length ≤ 20000) : Sp (cx Try.prog mixed tyT_ok E) 29 [dS s, .sl 2 24 l.length (rowP l)] (.sl 1 8 l.length (fun i _ => i64 (l.getD i .zero).f)) := by
  refine Sp.body Try.func29 (by kernel_rfl) rfl (by kernel_rfl) (by kernel_rfl) (by kernel_rfl) ?_
  repeat' first
    | (refine facW_intro ?_; intro _)
    | refine Or.inl ?_
    | ((conv => whnf); first | (refine condW_dec ?_ ?_ <;> intro _ <;> try (exfalso; omega)) | refine condW_not ?_ | (refine condW_bool ?_ ?_ <;> intro _ <;> try (exfalso; omega)) | (refine nbC_t (fun _ => ?_) ?_) | (refine nbC_f ?_ (fun _ => ?_)))
    | refine And.intro (by first | omega | (simp only [Int.toNat_natCast] at *; omega) | (simp only [Nat.reduceAdd, Int.cast_ofNat_Int, true_and, and_true]; omega) | kernel_rfl) ?_
    | refine RegW.run ?_
    | fail
  refine ⟨Nat, fun k => [(12, i64 k), (6, i64 (endp l k)), (5, .own 13 1 0 k)], fun k => [], [], fun k => [(13, 3, k, fun i _ => i64 (l.getD i .zero).f)], fun k => k ≤ l.length, fun k => l.length - k, ⟨0, Nat.zero_le _, ⟨[(13, none)], ⟨by kernel_rfl, by kernel_rfl, by kernel_rfl, by kernel_rfl, by kernel_rfl, by kernel_rfl, by kernel_rfl⟩, (by repeat' first | exact trivial | exact rfl | kernel_rfl | exact Dle.of_eq rfl | exact MLe.of_eq rfl | exact Dle.i (by omega) | exact Dle.i (by simp only [Int.toNat_natCast] at *; omega) | exact Dle.nil | exact Dle.rc Dle.nil | exact Option.some_ne_none _ | exact Or.inl rfl | exact Or.inr trivial | omega | (simp only [Int.toNat_natCast] at *; omega) | (intro _ _ _ _; exact Dle.of_eq rfl) | refine And.intro ?_ ?_)⟩⟩, fun k hk => ?_⟩
  have hk : k ≤ l.length := hk
  by_cases hlt : k < l.length
  · obtain ⟨⟨f, e, hf, he, h1, h2, h3, h4, h5⟩, hfe⟩ := hok k hlt
    have hen : endp l (k + 1) = e := by unfold endp; rw [if_neg (by omega)]; exact he
    have hef : endp l k = f := hfe.symm.trans hf
    by_cases hk4 : (l.getD k .zero).k = 4
    · have hk4' : (l.getD ((k : Int)).toNat .zero).k = 4 := hk4
      have h5 := h5 hk4
      repeat' first
        | (refine facW_intro ?_; intro _)
        | refine Or.inl ?_
        | ((conv => whnf); first | (refine condW_dec ?_ ?_ <;> intro _ <;> try (exfalso; omega)) | refine condW_not ?_ | (refine condW_bool ?_ ?_ <;> intro _ <;> try (exfalso; omega)) | (refine nbC_t (fun _ => ?_) ?_) | (refine nbC_f ?_ (fun _ => ?_)))
        | refine And.intro (by first | omega | (simp only [Int.toNat_natCast] at *; omega) | (simp only [Nat.reduceAdd, Int.cast_ofNat_Int, true_and, and_true]; omega) | kernel_rfl) ?_
        | refine RegW.run ?_
        | fail
      all_goals try (exfalso; omega)
      all_goals try (exfalso; rename_i h; exact h hk4)
      refine ⟨Nat, fun p => [(6, i64 p)], fun p => [], [19], fun p => [], fun p => p ≤ s.size ∧ bl cmE s false p = ⟨e, 0, 0⟩, fun p => s.size - p, ⟨f, ⟨by omega, h5⟩, ⟨[], ⟨by kernel_rfl, by kernel_rfl, by kernel_rfl, by kernel_rfl, by kernel_rfl, by kernel_rfl, by kernel_rfl⟩, (by repeat' first | (exact Dle.i (by omega)) | exact trivial | exact rfl | kernel_rfl | exact Dle.of_eq rfl | exact MLe.of_eq rfl | exact Dle.i (by omega) | exact Dle.i (by simp only [Int.toNat_natCast] at *; omega) | exact Dle.nil | exact Dle.rc Dle.nil | exact Option.some_ne_none _ | exact Or.inl rfl | exact Or.inr trivial | omega | (simp only [Int.toNat_natCast] at *; omega) | (intro _ _ _ _; exact Dle.of_eq rfl) | refine And.intro ?_ ?_)⟩⟩, fun p hp => ?_⟩
      obtain ⟨hp, hP⟩ := hp
      by_cases hpl : p < s.size
      · have c2 := commentEnd_sp E hML s (by omega) false p hp
        have e1 : ((bAt s ((p : Int)).toNat).toNat : Int) = at_ s p := rfl
        have hce := ce_cm (s := s) (sc := false) hpl
        have hcm := cmE_ok s false p hpl
        cases hkp : blkB (at_ s p)
        · have hx := blk_no hkp
          by_cases hc0 : cmE s false p < 0
          · rw [hce.1 hc0] at c2
            rw [bl_no hpl hkp hc0] at hP
            injection hP with hP _ _
            have hpe : (p : Int) = endp l (k + 1) := by rw [hen]; exact hP
            repeat' first
              | (refine facW_intro ?_; intro _)
              | refine Or.inl ?_
              | ((conv => whnf); first | (refine condW_dec ?_ ?_ <;> intro _ <;> try (exfalso; omega)) | refine condW_not ?_ | (refine condW_bool ?_ ?_ <;> intro _ <;> try (exfalso; omega)) | (refine nbC_t (fun _ => ?_) ?_) | (refine nbC_f ?_ (fun _ => ?_)))
              | refine And.intro (by first | omega | (simp only [Int.toNat_natCast] at *; omega) | (simp only [Nat.reduceAdd, Int.cast_ofNat_Int, true_and, and_true]; omega) | kernel_rfl) ?_
              | refine RegW.run ?_
              | refine ⟨_, c2, ?_⟩
              | fail
            all_goals first
              | (exfalso; rename_i h; exact h rfl)
              | exact ⟨k + 1, by omega, ⟨[(13, some 19)], ⟨by kernel_rfl, by kernel_rfl, by kernel_rfl, by kernel_rfl, by kernel_rfl, by kernel_rfl, by kernel_rfl⟩, (by repeat' first | (exact Dle.i (by omega)) | exact trivial | exact rfl | kernel_rfl | exact Dle.of_eq rfl | exact MLe.of_eq rfl | exact Dle.i (by omega) | exact Dle.i (by simp only [Int.toNat_natCast] at *; omega) | exact Dle.nil | exact Dle.rc Dle.nil | exact Option.some_ne_none _ | exact Or.inl rfl | exact Or.inr trivial | omega | (simp only [Int.toNat_natCast] at *; omega) | (intro _ _ _ _; exact Dle.of_eq rfl) | (intro i j hi hj; exact row_pos E l k _ hfe i j (by omega) hj) | refine And.intro ?_ ?_)⟩, by first | omega | (dsimp only; omega)⟩
              | (exfalso; omega)
              | trace_state
          · by_cases hc1 : (s.size : Int) < cmE s false p
            · rw [bl_open hpl hkp hc1] at hP
              injection hP with _ _ hP
              cases hP
            · obtain ⟨n, hn⟩ := Int.eq_ofNat_of_zero_le (show 0 ≤ cmE s false p by omega)
              obtain ⟨g1, g2⟩ := hce.2.2 (by omega) (by omega)
              rw [g1, hn] at c2
              by_cases hch : 0 ≤ chk s p (cmE s false p).toNat
              · rw [bl_bad hpl hkp (by omega) (by omega) hch] at hP
                injection hP with _ _ hP
                cases hP
              · rw [bl_go hpl hkp (by omega) (by omega) (by omega) (by omega), hn] at hP
                have hP : bl cmE s false n = ⟨e, 0, 0⟩ := hP
                repeat' first
                  | (refine facW_intro ?_; intro _)
                  | refine Or.inl ?_
                  | ((conv => whnf); first | (refine condW_dec ?_ ?_ <;> intro _ <;> try (exfalso; omega)) | refine condW_not ?_ | (refine condW_bool ?_ ?_ <;> intro _ <;> try (exfalso; omega)) | (refine nbC_t (fun _ => ?_) ?_) | (refine nbC_f ?_ (fun _ => ?_)))
                  | refine And.intro (by first | omega | (simp only [Int.toNat_natCast] at *; omega) | (simp only [Nat.reduceAdd, Int.cast_ofNat_Int, true_and, and_true]; omega) | kernel_rfl) ?_
                  | refine RegW.run ?_
                  | refine ⟨_, c2, ?_⟩
                  | fail
                all_goals first
                  | (exfalso; rename_i h; exact h rfl)
                  | exact ⟨n, ⟨by omega, hP⟩, ⟨[], ⟨by kernel_rfl, by kernel_rfl, by kernel_rfl, by kernel_rfl, by kernel_rfl, by kernel_rfl, by kernel_rfl⟩, (by repeat' first | exact trivial | exact rfl | kernel_rfl | exact Dle.of_eq rfl | exact MLe.of_eq rfl | exact Dle.i (by omega) | exact Dle.i (by simp only [Int.toNat_natCast] at *; omega) | exact Dle.nil | exact Dle.rc Dle.nil | exact Option.some_ne_none _ | exact Or.inl rfl | exact Or.inr trivial | omega | (simp only [Int.toNat_natCast] at *; omega) | (intro _ _ _ _; exact Dle.of_eq rfl) | refine And.intro ?_ ?_)⟩, by first | omega | (dsimp only; omega)⟩
                  | (exfalso; omega)
                  | trace_state
        · have hx := blk_yes hkp
          have hc0 : cmE s false p < 0 := cm_neg (has_no (by omega)) (fun h => by cases h)
          rw [hce.1 hc0] at c2
          rw [bl_blk hpl hkp] at hP
          repeat' first
            | (refine facW_intro ?_; intro _)
            | refine Or.inl ?_
            | ((conv => whnf); first | (refine condW_dec ?_ ?_ <;> intro _ <;> try (exfalso; omega)) | refine condW_not ?_ | (refine condW_bool ?_ ?_ <;> intro _ <;> try (exfalso; omega)) | (refine nbC_t (fun _ => ?_) ?_) | (refine nbC_f ?_ (fun _ => ?_)))
            | refine And.intro (by first | omega | (simp only [Int.toNat_natCast] at *; omega) | (simp only [Nat.reduceAdd, Int.cast_ofNat_Int, true_and, and_true]; omega) | kernel_rfl) ?_
            | refine RegW.run ?_
            | refine ⟨_, c2, ?_⟩
            | fail
          all_goals first
            | (exfalso; rename_i h; exact h rfl)
            | exact ⟨p + 1, ⟨by omega, hP⟩, ⟨[], ⟨by kernel_rfl, by kernel_rfl, by kernel_rfl, by kernel_rfl, by kernel_rfl, by kernel_rfl, by kernel_rfl⟩, (by repeat' first | exact trivial | exact rfl | kernel_rfl | exact Dle.of_eq rfl | exact MLe.of_eq rfl | exact Dle.i (by omega) | exact Dle.i (by simp only [Int.toNat_natCast] at *; omega) | exact Dle.nil | exact Dle.rc Dle.nil | exact Option.some_ne_none _ | exact Or.inl rfl | exact Or.inr trivial | omega | (simp only [Int.toNat_natCast] at *; omega) | (intro _ _ _ _; exact Dle.of_eq rfl) | refine And.intro ?_ ?_)⟩, by first | omega | (dsimp only; omega)⟩
            | (exfalso; omega)
            | trace_state
      · rw [bl_end hpl] at hP
        injection hP with hP _ _
        have hpe : (p : Int) = endp l (k + 1) := by rw [hen]; exact hP
        repeat' first
          | (refine facW_intro ?_; intro _)
          | refine Or.inl ?_
          | ((conv => whnf); first | (refine condW_dec ?_ ?_ <;> intro _ <;> try (exfalso; omega)) | refine condW_not ?_ | (refine condW_bool ?_ ?_ <;> intro _ <;> try (exfalso; omega)) | (refine nbC_t (fun _ => ?_) ?_) | (refine nbC_f ?_ (fun _ => ?_)))
          | refine And.intro (by first | omega | (simp only [Int.toNat_natCast] at *; omega) | (simp only [Nat.reduceAdd, Int.cast_ofNat_Int, true_and, and_true]; omega) | kernel_rfl) ?_
          | refine RegW.run ?_
          | fail
        all_goals first
          | (exfalso; rename_i h; exact h rfl)
          | exact ⟨k + 1, by omega, ⟨[(13, some 19)], ⟨by kernel_rfl, by kernel_rfl, by kernel_rfl, by kernel_rfl, by kernel_rfl, by kernel_rfl, by kernel_rfl⟩, (by repeat' first | (exact Dle.i (by omega)) | exact trivial | exact rfl | kernel_rfl | exact Dle.of_eq rfl | exact MLe.of_eq rfl | exact Dle.i (by omega) | exact Dle.i (by simp only [Int.toNat_natCast] at *; omega) | exact Dle.nil | exact Dle.rc Dle.nil | exact Option.some_ne_none _ | exact Or.inl rfl | exact Or.inr trivial | omega | (simp only [Int.toNat_natCast] at *; omega) | (intro _ _ _ _; exact Dle.of_eq rfl) | (intro i j hi hj; exact row_pos E l k _ hfe i j (by omega) hj) | refine And.intro ?_ ?_)⟩, by first | omega | (dsimp only; omega)⟩
          | (exfalso; omega)
          | trace_state
    · have hk4' : ¬ (l.getD ((k : Int)).toNat .zero).k = 4 := hk4
      have hz : (l.getD ((k : Int)).toNat .zero).t.size = e - f := h3 hk4
      have hpe : endp l k + ((l.getD ((k : Int)).toNat .zero).t.size : Int) = endp l (k + 1) := by rw [hen, hef, hz]; omega
      repeat' first
        | (refine facW_intro ?_; intro _)
        | refine Or.inl ?_
        | ((conv => whnf); first | (refine condW_dec ?_ ?_ <;> intro _ <;> try (exfalso; omega)) | refine condW_not ?_ | (refine condW_bool ?_ ?_ <;> intro _ <;> try (exfalso; omega)) | (refine nbC_t (fun _ => ?_) ?_) | (refine nbC_f ?_ (fun _ => ?_)))
        | refine And.intro (by first | omega | (simp only [Int.toNat_natCast] at *; omega) | (simp only [Nat.reduceAdd, Int.cast_ofNat_Int, true_and, and_true]; omega) | kernel_rfl) ?_
        | refine RegW.run ?_
        | fail
      all_goals first
        | (exfalso; rename_i h; exact h rfl)
        | exact ⟨k + 1, by omega, ⟨[(13, some 19)], ⟨by kernel_rfl, by kernel_rfl, by kernel_rfl, by kernel_rfl, by kernel_rfl, by kernel_rfl, by kernel_rfl⟩, (by repeat' first | (exact Dle.i (by omega)) | exact trivial | exact rfl | kernel_rfl | exact Dle.of_eq rfl | exact MLe.of_eq rfl | exact Dle.i (by omega) | exact Dle.i (by simp only [Int.toNat_natCast] at *; omega) | exact Dle.nil | exact Dle.rc Dle.nil | exact Option.some_ne_none _ | exact Or.inl rfl | exact Or.inr trivial | omega | (simp only [Int.toNat_natCast] at *; omega) | (intro _ _ _ _; exact Dle.of_eq rfl) | (intro i j hi hj; exact row_pos E l k _ hfe i j (by omega) hj) | refine And.intro ?_ ?_)⟩, by first | omega | (dsimp only; omega)⟩
        | (exfalso; omega)
        | trace_state
  · obtain rfl : k = l.length := by omega
    repeat' first
      | (refine facW_intro ?_; intro _)
      | refine Or.inl ?_
      | ((conv => whnf); first | (refine condW_dec ?_ ?_ <;> intro _ <;> try (exfalso; omega)) | refine condW_not ?_ | (refine condW_bool ?_ ?_ <;> intro _ <;> try (exfalso; omega)) | (refine nbC_t (fun _ => ?_) ?_) | (refine nbC_f ?_ (fun _ => ?_)))
      | refine And.intro (by first | omega | (simp only [Int.toNat_natCast] at *; omega) | (simp only [Nat.reduceAdd, Int.cast_ofNat_Int, true_and, and_true]; omega) | kernel_rfl) ?_
      | refine RegW.run ?_
      | fail
    all_goals first
      | exact Dle.refl _ _
      | trace_state
theorem links1_sp (hML : ∀ w, E.G w → ML w) (s : ByteArray) : Sp (cx Try.prog mixed tyT_ok E) 7 [dS s] (encLs (linksE s)) := by
  have h1 := tokens_sp E hML s false
  have hlen := toks_len s false
  have hok := toks_ok s false
  obtain ⟨r, hr⟩ : ∃ r, r = linksE s := ⟨_, rfl⟩
  rw [← hr]
  unfold linksE at hr
  by_cases he : (toksE s false).e ≠ 0
  · rw [if_pos he] at hr
    generalize toksE s false = q at *
    unfold encTs at h1
    refine Sp.body Try.func7 (by kernel_rfl) rfl (by kernel_rfl) (by kernel_rfl) (by kernel_rfl) ?_
    repeat' first
      | (refine facW_intro ?_; intro _)
      | refine Or.inl ?_
      | ((conv => whnf); first | (refine condW_dec ?_ ?_ <;> intro _ <;> try (exfalso; omega)) | refine condW_not ?_ | (refine condW_bool ?_ ?_ <;> intro _ <;> try (exfalso; omega)) | (refine nbC_t (fun _ => ?_) ?_) | (refine nbC_f ?_ (fun _ => ?_)))
      | refine And.intro (by first | omega | (simp only [Int.toNat_natCast] at *; omega) | (simp only [Nat.reduceAdd, Int.cast_ofNat_Int, true_and, and_true]; omega) | kernel_rfl) ?_
      | refine RegW.run ?_
      | refine ⟨_, h1, ?_⟩
      | fail
    all_goals first
      | (exfalso; rename_i h; exact he h)
      | exact dle_errL E hr
      | trace_state
  · rw [if_neg he] at hr
    have he : (toksE s false).e = 0 := by omega
    have h2 : Sp (cx Try.prog mixed tyT_ok E) 15 [.sl 4 40 (toksE s false).l.length (rowT (toksE s false).l)] (.sl 3 32 (lkP (toksE s false).l (toksE s false).l.length).length (rowL (lkP (toksE s false).l (toksE s false).l.length))) := by
      by_cases hs : s.size ≤ 20000
      · exact links_sp E hML s false _ hs hok hlen
      · have : (toksE s false).l = [] := by unfold toksE; rw [if_pos (by omega)]
        rw [this]
        exact links_sp E hML ⟨#[]⟩ false [] (by decide) (allOk_nil _ _) (by decide)
    generalize toksE s false = q at *
    unfold encTs at h1
    subst hr
    refine Sp.body Try.func7 (by kernel_rfl) rfl (by kernel_rfl) (by kernel_rfl) (by kernel_rfl) ?_
    repeat' first
      | (refine facW_intro ?_; intro _)
      | refine Or.inl ?_
      | ((conv => whnf); first | (refine condW_dec ?_ ?_ <;> intro _ <;> try (exfalso; omega)) | refine condW_not ?_ | (refine condW_bool ?_ ?_ <;> intro _ <;> try (exfalso; omega)) | (refine nbC_t (fun _ => ?_) ?_) | (refine nbC_f ?_ (fun _ => ?_)))
      | refine And.intro (by first | omega | (simp only [Int.toNat_natCast] at *; omega) | (simp only [Nat.reduceAdd, Int.cast_ofNat_Int, true_and, and_true]; omega) | kernel_rfl) ?_
      | refine RegW.run ?_
      | refine ⟨_, h1, ?_⟩
      | refine ⟨_, h2, ?_⟩
      | fail
    all_goals first
      | (exfalso; rename_i h; exact h he)
      | exact Dle.refl _ _
      | trace_state
set_option maxHeartbeats 8000000 in
theorem linksOf_sp (hML : ∀ w, E.G w → ML w) (s : ByteArray) : Sp (cx Try.prog mixed tyT_ok E) 20 [dS s] (encLs (linksE s)) := by
  have h1 := tokensOf_sp E hML s false
  have hlen := toks_len s false
  have hok := toks_ok s false
  obtain ⟨r, hr⟩ : ∃ r, r = linksE s := ⟨_, rfl⟩
  rw [← hr]
  unfold linksE at hr
  by_cases he : (toksE s false).e ≠ 0
  · rw [if_pos he] at hr
    generalize toksE s false = q at *
    unfold encPs at h1
    refine Sp.body Try.func20 (by kernel_rfl) rfl (by kernel_rfl) (by kernel_rfl) (by kernel_rfl) ?_
    repeat' first
      | (refine facW_intro ?_; intro _)
      | refine Or.inl ?_
      | ((conv => whnf); first | (refine condW_dec ?_ ?_ <;> intro _ <;> try (exfalso; omega)) | refine condW_not ?_ | (refine condW_bool ?_ ?_ <;> intro _ <;> try (exfalso; omega)) | (refine nbC_t (fun _ => ?_) ?_) | (refine nbC_f ?_ (fun _ => ?_)))
      | refine And.intro (by first | omega | (simp only [Int.toNat_natCast] at *; omega) | (simp only [Nat.reduceAdd, Int.cast_ofNat_Int, true_and, and_true]; omega) | kernel_rfl) ?_
      | refine RegW.run ?_
      | refine ⟨_, h1, ?_⟩
      | fail
    all_goals first
      | (exfalso; rename_i h; exact he h)
      | exact dle_errL E hr
      | trace_state
  · rw [if_neg he] at hr
    have he : (toksE s false).e = 0 := by omega
    have hs : s.size ≤ 20000 := by
      rcases Nat.lt_or_ge 20000 s.size with h | h
      · have : (toksE s false).e = 4 := by unfold toksE; rw [if_pos h]
        omega
      · exact h
    have h2 := positions_sp E hML s _ hs hok hlen
    generalize toksE s false = q at *
    unfold encPs at h1
    obtain ⟨l, a0, e0⟩ := q
    simp only at *
    subst he
    have hr : r = ⟨lkP l l.length, 0, 0⟩ := hr
    refine Sp.body Try.func20 (by kernel_rfl) rfl (by kernel_rfl) (by kernel_rfl) (by kernel_rfl) ?_
    repeat' first
      | (refine facW_intro ?_; intro _)
      | refine Or.inl ?_
      | ((conv => whnf); first | (refine condW_dec ?_ ?_ <;> intro _ <;> try (exfalso; omega)) | refine condW_not ?_ | (refine condW_bool ?_ ?_ <;> intro _ <;> try (exfalso; omega)) | (refine nbC_t (fun _ => ?_) ?_) | (refine nbC_f ?_ (fun _ => ?_)))
      | refine And.intro (by first | omega | (simp only [Int.toNat_natCast] at *; omega) | (simp only [Nat.reduceAdd, Int.cast_ofNat_Int, true_and, and_true]; omega) | kernel_rfl) ?_
      | refine RegW.run ?_
      | refine ⟨_, h1, ?_⟩
      | refine ⟨_, h2, ?_⟩
      | fail
    all_goals try (exfalso; rename_i h; exact h rfl)
    refine ⟨Nat, fun k => [(10, i64 k), (8, .own 24 3 0 (lkP l k).length)], fun k => [], [], fun k => [(24, 36, (lkP l k).length, rowL (lkP l k))], fun k => 2 ≤ k ∧ k ≤ l.length + 2, fun k => l.length - k, ⟨2, ⟨Nat.le_refl _, by omega⟩, ⟨[(24, none)], ⟨by kernel_rfl, by kernel_rfl, by kernel_rfl, by kernel_rfl, by kernel_rfl, by kernel_rfl, by kernel_rfl⟩, (by repeat' first | (exact (congrArg List.length (lkP_two l)).symm) | exact trivial | exact rfl | kernel_rfl | exact Dle.of_eq rfl | exact MLe.of_eq rfl | exact Dle.i (by omega) | exact Dle.i (by simp only [Int.toNat_natCast] at *; omega) | exact Dle.nil | exact Dle.rc Dle.nil | exact Option.some_ne_none _ | exact Or.inl rfl | exact Or.inr trivial | omega | (simp only [Int.toNat_natCast] at *; omega) | (intro _ _ _ _; exact Dle.of_eq rfl) | refine And.intro ?_ ?_)⟩⟩, fun k hk => ?_⟩
    obtain ⟨hk, hk9⟩ := hk
    have hkl := lkP_len l k
    by_cases hlt : k + 1 < l.length
    · obtain ⟨⟨f, e, hf, he, g1, g2, g3, g4, _⟩, _⟩ := hok k (by omega)
      have e3 : ((k : Int) - 2).toNat = k - 2 := by omega
      have e2 : ((k : Int) - 1).toNat = k - 1 := by omega
      have e0 : ((k : Int) + 1).toNat = k + 1 := by omega
      have hf' : (l.getD ((k : Int)).toNat .zero).f = f := hf
      have he' : (l.getD ((k : Int)).toNat .zero).e = e := he
      have hz' : (l.getD ((k : Int)).toNat .zero).k = 2 → (l.getD ((k : Int)).toNat .zero).t.size = e - f ∧ f + 2 ≤ e := fun h => by
        have h : (l.getD k .zero).k = 2 := h
        exact ⟨g3 (by omega), g4 h⟩
      have a1 : Sp (cx Try.prog mixed tyT_ok E) 30 [.agg [i64 (l.getD ((k : Int) - 1).toNat .zero).k, dS (l.getD ((k : Int) - 1).toNat .zero).t], dS ⟨#[40]⟩] (dB (amB (l.getD (k - 1) .zero) ⟨#[40]⟩)) := by rw [e2]; exact isMarkR_sp E hML _ 40
      have a2 : Sp (cx Try.prog mixed tyT_ok E) 30 [.agg [i64 (l.getD ((k : Int) + 1).toNat .zero).k, dS (l.getD ((k : Int) + 1).toNat .zero).t], dS ⟨#[41]⟩] (dB (amB (l.getD (k + 1) .zero) ⟨#[41]⟩)) := by rw [e0]; exact isMarkR_sp E hML _ 41
      have hC : lkC l k = (decide ((l.getD ((k : Int) - 2).toNat .zero).k = 1) && (decide ((l.getD ((k : Int) - 2).toNat .zero).t = urlB) && (amB (l.getD (k - 1) .zero) ⟨#[40]⟩ && (decide ((l.getD ((k : Int)).toNat .zero).k = 2) && amB (l.getD (k + 1) .zero) ⟨#[41]⟩)))) := by
        rw [e3]
        unfold lkC
        rw [decide_eq_true ⟨hk, hlt⟩, Bool.true_and]
        rfl
      cases hc : lkC l k
      · have hnx := lkP_no hc
        rw [hc] at hC
        generalize amB (l.getD (k - 1) .zero) ⟨#[40]⟩ = b1 at *
        generalize amB (l.getD (k + 1) .zero) ⟨#[41]⟩ = b2 at *
        have hC2 : ¬ ((l.getD ((k : Int) - 2).toNat .zero).k = 1 ∧ (l.getD ((k : Int) - 2).toNat .zero).t = urlB ∧ b1 = true ∧ (l.getD ((k : Int)).toNat .zero).k = 2 ∧ b2 = true) := by
          rintro ⟨q1, q2, q3, q4, q5⟩
          rw [q1, q2, q3, q4, q5] at hC
          exact absurd hC (by decide)
        have hnl := congrArg List.length hnx
        repeat' first
          | (refine facW_intro ?_; intro _)
          | refine Or.inl ?_
          | ((conv => whnf); first | (refine condW_dec ?_ ?_ <;> intro _ <;> try (exfalso; omega)) | refine condW_not ?_ | (refine condW_bool ?_ ?_ <;> intro _ <;> try (exfalso; omega)) | (refine nbC_t (fun _ => ?_) ?_) | (refine nbC_f ?_ (fun _ => ?_)))
          | refine And.intro (by first | omega | (simp only [Int.toNat_natCast] at *; omega) | (simp only [Nat.reduceAdd, Int.cast_ofNat_Int, true_and, and_true]; omega) | kernel_rfl) ?_
          | refine RegW.run ?_
          | refine ⟨_, a1, ?_⟩
          | refine ⟨_, a2, ?_⟩
          | fail
        all_goals first
          | (exfalso; exact hC2 ⟨by assumption, by assumption, by assumption, by assumption, by assumption⟩)
          | exact ⟨k + 1, ⟨by omega, by omega⟩, ⟨[(24, some 24)], ⟨by kernel_rfl, by kernel_rfl, by kernel_rfl, by kernel_rfl, by kernel_rfl, by kernel_rfl, by kernel_rfl⟩, (by repeat' first | (exact hnl.symm) | exact trivial | exact rfl | kernel_rfl | exact Dle.of_eq rfl | exact MLe.of_eq rfl | exact Dle.i (by omega) | exact Dle.i (by simp only [Int.toNat_natCast] at *; omega) | exact Dle.nil | exact Dle.rc Dle.nil | exact Option.some_ne_none _ | exact Or.inl rfl | exact Or.inr trivial | omega | (simp only [Int.toNat_natCast] at *; omega) | (intro _ _ _ _; exact Dle.of_eq rfl) | (intro i j hi hj; (rw [hnx]; exact Dle.refl _ _)) | refine And.intro ?_ ?_)⟩, by first | omega | (dsimp only; omega)⟩
          | trace_state
      · have hnx := lkP_yes hc
        rw [hc] at hC
        generalize amB (l.getD (k - 1) .zero) ⟨#[40]⟩ = b1 at *
        generalize amB (l.getD (k + 1) .zero) ⟨#[41]⟩ = b2 at *
        have hC2 : (l.getD ((k : Int) - 2).toNat .zero).k = 1 ∧ (l.getD ((k : Int) - 2).toNat .zero).t = urlB ∧ b1 = true ∧ (l.getD ((k : Int)).toNat .zero).k = 2 ∧ b2 = true := by
          simpa using hC.symm
        obtain ⟨q1, q2, rfl, q4, rfl⟩ := hC2
        have hz := hz' q4
        have hnl : (lkP l k).length + 1 = (lkP l (k + 1)).length := by rw [hnx]; simp
        have eT : (((l.getD ((k : Int)).toNat .zero).t.size : Int) - 1).toNat = (l.getD ((k : Int)).toNat .zero).t.size - 1 := by omega
        have eE : (l.getD ((k : Int)).toNat .zero).f + ((l.getD ((k : Int)).toNat .zero).t.size : Int) - 1 = (l.getD ((k : Int)).toNat .zero).e - 1 := by omega
        have hm : [i64 ((l.getD ((k : Int)).toNat .zero).f + 1), i64 ((l.getD ((k : Int)).toNat .zero).f + ((l.getD ((k : Int)).toNat .zero).t.size : Int) - 1), dS ((l.getD ((k : Int)).toNat .zero).t.extract (1 : Int).toNat (((l.getD ((k : Int)).toNat .zero).t.size : Int) - 1).toNat)] = ([i64 (lkM (l.getD k .zero)).f, i64 (lkM (l.getD k .zero)).e, dS (lkM (l.getD k .zero)).p] : List DD) := by
          rw [eT, eE]; rfl
        repeat' first
          | (refine facW_intro ?_; intro _)
          | refine Or.inl ?_
          | ((conv => whnf); first | (refine condW_dec ?_ ?_ <;> intro _ <;> try (exfalso; omega)) | refine condW_not ?_ | (refine condW_bool ?_ ?_ <;> intro _ <;> try (exfalso; omega)) | (refine nbC_t (fun _ => ?_) ?_) | (refine nbC_f ?_ (fun _ => ?_)))
          | refine And.intro (by first | omega | (simp only [Int.toNat_natCast] at *; omega) | (simp only [Nat.reduceAdd, Int.cast_ofNat_Int, true_and, and_true]; omega) | kernel_rfl) ?_
          | refine RegW.run ?_
          | refine ⟨_, a1, ?_⟩
          | refine ⟨_, a2, ?_⟩
          | fail
        all_goals first
          | (exfalso; rename_i h; exact h rfl)
          | (exfalso; rename_i h; exact h q1)
          | (exfalso; rename_i h; exact h q2)
          | (exfalso; rename_i h; exact h q4)
          | (exfalso; omega)
          | exact ⟨k + 1, ⟨by omega, by omega⟩, ⟨[(24, some 104)], ⟨by kernel_rfl, by kernel_rfl, by kernel_rfl, by kernel_rfl, by kernel_rfl, by kernel_rfl, by kernel_rfl⟩, (by repeat' first | (exact hnl) | exact trivial | exact rfl | kernel_rfl | exact Dle.of_eq rfl | exact MLe.of_eq rfl | exact Dle.i (by omega) | exact Dle.i (by simp only [Int.toNat_natCast] at *; omega) | exact Dle.nil | exact Dle.rc Dle.nil | exact Option.some_ne_none _ | exact Or.inl rfl | exact Or.inr trivial | omega | (simp only [Int.toNat_natCast] at *; omega) | (intro _ _ _ _; exact Dle.of_eq rfl) | (intro i j hi hj; (rw [hnx]; exact row_lk E (lkP l k) (lkM (l.getD k .zero)) _ hm i j (by omega) hj)) | refine And.intro ?_ ?_)⟩, by first | omega | (dsimp only; omega)⟩
          | trace_state
    · have e : lkP l k = lkP l l.length := lkP_all (by omega)
      have hD : Dle (cx Try.prog mixed tyT_ok E) (.tup [.sl 3 32 (lkP l k).length (rowL (lkP l k)), i64 0, i64 0]) (encLs r) := by
        rw [hr, e]
        exact Dle.refl _ _
      repeat' first
        | (refine facW_intro ?_; intro _)
        | refine Or.inl ?_
        | ((conv => whnf); first | (refine condW_dec ?_ ?_ <;> intro _ <;> try (exfalso; omega)) | refine condW_not ?_ | (refine condW_bool ?_ ?_ <;> intro _ <;> try (exfalso; omega)) | (refine nbC_t (fun _ => ?_) ?_) | (refine nbC_f ?_ (fun _ => ?_)))
        | refine And.intro (by first | omega | (simp only [Int.toNat_natCast] at *; omega) | (simp only [Nat.reduceAdd, Int.cast_ofNat_Int, true_and, and_true]; omega) | kernel_rfl) ?_
        | refine RegW.run ?_
        | fail
      all_goals first
        | exact hD
        | trace_state
end
end tk
end Go.Proofs.Ytiiohopjkepkgaa
